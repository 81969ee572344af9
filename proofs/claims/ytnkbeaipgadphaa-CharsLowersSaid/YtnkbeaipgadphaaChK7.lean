/- CharsLowers: the law, walked. -/
import Derived.Test.YtnkbeaipgadphaaChW16
import Derived.Test.YtnkbeaipgadphaaArgC2
namespace Go.Proofs.Ytnkbeaipgadphaa
open Go.RowKit
open C01

theorem lowS_size (s : ByteArray) : (lowS s).size = s.size := by
  unfold lowS
  rw [txt_size, List.length_map, Array.length_toList]
  rfl
theorem lowU_lowU (c : UInt8) : lowU (lowU c) = lowU c := by
  apply UInt8.toNat_inj.1
  rw [lowU_toNat, lowU_toNat]
  unfold lowI
  repeat' split
  all_goals omega
theorem lowS_lowS (s : ByteArray) : lowS (lowS s) = lowS s := by
  have : (lowS s).data.toList = s.data.toList.map lowU := by simp [lowS, txt]
  unfold lowS at this ⊢
  rw [this, List.map_map]
  congr 1
  apply List.map_congr_left
  intro c _
  exact lowU_lowU c
theorem lowS_byte (s : ByteArray) {k : Nat} (hk : k < s.size) : byteN (lowS s) k = lowI (byteN s k) := by
  have h : (lowS s).data.toList = s.data.toList.map lowU := by simp [lowS, txt]
  have h' : k < s.data.toList.length := by rw [Array.length_toList]; exact hk
  unfold byteN
  rw [h, List.getD_eq_getElem?_getD, List.getElem?_map, List.getElem?_eq_getElem h', Option.map_some, Option.getD_some, lowU_toNat, List.getD_eq_getElem?_getD, List.getElem?_eq_getElem h', Option.getD_some]
set_option maxHeartbeats 1000000 in
theorem walk_CharsLowers (W : World) (v0 : Value) (a0 : Arg Try.prog W 9 v0) : Calls Try.prog 11 #[v0] W fun e W' => e = .returned (.bool true) ∧ Below W.heap.size W W' := by
  obtain ⟨s, rfl⟩ := arg_string a0
  clear a0
  have H0 := Lib.hid (fun w => cut_any s w)
  have hs := cutS_size s
  generalize cutS s = r at H0 hs
  have H1 := Lib.hid (fun w => Lower_any r w (by omega))
  have H2 := Lib.hid (fun w => Lower_any (lowS r) w (by rw [lowS_size]; omega))
  have hsz := lowS_size r
  have Hb := Lib.hid (fun k hk => lowS_byte r (k := k) hk)
  rw [lowS_lowS] at H2
  generalize lowS r = t at H1 H2 hsz Hb
  have HL := Lib.hid (fun w => lives_any w)
  go_enter Try.func11, Try.ntmps11
  go_wp2_with (first
    | (go_at_call 16; with_reducible refine (H0.out _).mono ?_; rintro e w1 ⟨rfl, rfl⟩)
    | (go_at_call 29; with_reducible refine (H1.out _).mono ?_; rintro e w1 ⟨rfl, hb⟩; have HB := Lib.hid hb; clear hb)
    | (go_at_call 29; with_reducible refine (H2.out _).mono ?_; rintro e w2 ⟨rfl, hb⟩; have HB2 := Lib.hid hb; clear hb))
  have HB3 := Lib.hid (HB.out.trans (HB2.out.mono HB.out.size))
  go_loop [4] (fun sv => ∃ k : Nat, k ≤ r.size ∧ sv = .int .i64 k) (fun sv => r.size - (intOf sv).toNat)
  case atStart => exact ⟨0, Nat.zero_le _, rfl⟩
  case round =>
    obtain ⟨k, hks, rfl⟩ := hrel
    by_cases hk : k < r.size
    · have hkt : k < t.size := by omega
      have hbr := byteN_eq hk
      have hbt := byteN_eq hkt
      rw [Hb.out k hk] at hbt
      have hx := byteN_lt r k
      generalize byteN r k = x at hbr hbt hx
      by_cases hu : 65 ≤ x ∧ x ≤ 90
      · have hl : lowI x = x + 32 := if_pos hu
        rw [hl] at hbt
        clear hl
        obtain ⟨h1, h2⟩ := hu
        have hw : IntKind.u8.wrap ((x : Int) + 32) = (x : Int) + 32 := u8w (by omega) (by omega)
        have hsz2 := Lib.hid hsz
        clear hsz
        go_wp2
        go_round
        case rel => exact ⟨k + 1, by omega, by go_num⟩
        case measure => simp [intOf]; omega
      · have hl : lowI x = x := if_neg hu
        rw [hl] at hbt
        clear hl
        have hsz2 := Lib.hid hsz
        clear hsz
        rcases Nat.lt_or_ge x 65 with h1 | h1
        all_goals
          try have h2 : 90 < x := by omega
          clear hu
          go_wp2
          go_round
          case rel => exact ⟨k + 1, by omega, by go_num⟩
          case measure => simp [intOf]; omega
    · obtain rfl : k = r.size := by omega
      go_wp2_with (go_at_call 15; with_reducible refine (HL.out _).mono ?_; rintro e w4 ⟨rfl, hb⟩; have HB4 := Lib.hid hb; clear hb)
      go_ret
      exact ⟨rfl, HB3.out.trans (HB4.out.mono HB3.out.size)⟩
end Go.Proofs.Ytnkbeaipgadphaa
