/- CharsNumbers: the law, walked. -/
import Derived.Test.YtnkbeaipgadphaaChD7
import Derived.Test.YtnkbeaipgadphaaChK4
namespace Go.Proofs.Ytnkbeaipgadphaa
open Go.RowKit
open C01

theorem txt_list (l : List UInt8) : (txt l).data.toList = l := by simp [txt]
theorem txt_of (s : ByteArray) : txt s.data.toList = s := by cases s; simp [txt]
theorem letterOk_pos {m : Nat} (h : letterOk m = true) : 9 ≤ m := by
  have h' : (m : Int) = 9 ∨ (m : Int) = 10 ∨ (m : Int) = 13 ∨ (32 ≤ (m : Int) ∧ (m : Int) ≤ 1114111 ∧ ¬ (55296 ≤ (m : Int) ∧ (m : Int) ≤ 57343)) := of_decide_eq_true h
  omega
theorem ext_dec_all : ∀ r : Fin 10, (⟨#[48, 49, 50, 51, 52, 53, 54, 55, 56, 57]⟩ : ByteArray).extract r.val (r.val + 1) = ⟨#[chB r.val]⟩ := by decide +kernel
theorem ext_hex_all : ∀ r : Fin 16, (⟨#[48, 49, 50, 51, 52, 53, 54, 55, 56, 57, 97, 98, 99, 100, 101, 102]⟩ : ByteArray).extract r.val (r.val + 1) = ⟨#[chB r.val]⟩ := by decide +kernel
theorem num_next {b k m : Nat} {d c : ByteArray} (hb : b = 10 ∨ b = 16) (hm : m ≤ 1114111) (hk : 0 < k) (hc : c = ⟨#[chB (k % b)]⟩) (h : dgs b k ++ d.data.toList = dgs b m) : dgs b (k / b) ++ (c ++ d).data.toList = dgs b m ∧ (c ++ d).size ≤ 10 := by
  have e : dgs b (k / b) ++ (c ++ d).data.toList = dgs b m := by
    rw [← h, dgs_step hb hk, hc]
    simp
  refine ⟨e, ?_⟩
  have h2 := congrArg List.length e
  rw [List.length_append] at h2
  have h4 : (c ++ d).data.toList.length = (c ++ d).data.size := Array.length_toList
  have h3 : (dgs b m).length ≤ 7 := by
    rcases hb with rfl | rfl
    · exact dgs_len (.inl rfl) 7 m (by omega)
    · exact dgs_len (.inr rfl) 7 m (by omega)
  show (c ++ d).data.size ≤ 10
  omega
theorem dec_size (d t : ByteArray) : ((⟨#[38, 35]⟩ : ByteArray) ++ d ++ ⟨#[59]⟩ ++ t).size = 2 + d.size + 1 + t.size := by
  rw [ByteArray.size_append, ByteArray.size_append, ByteArray.size_append]; rfl
theorem hex_size (d t : ByteArray) : ((⟨#[38, 35, 120, 48]⟩ : ByteArray) ++ d ++ ⟨#[59]⟩ ++ t).size = 4 + d.size + 1 + t.size := by
  rw [ByteArray.size_append, ByteArray.size_append, ByteArray.size_append]; rfl
theorem dec_good {m : Nat} {d t : ByteArray} (h1 : letterOk m = true) (hm : m ≤ 1114111) (h : dgs 10 0 ++ d.data.toList = dgs 10 m) : refR (⟨#[38, 35]⟩ ++ d ++ ⟨#[59]⟩ ++ t) = (letterS m, (d.size : Int) + 3, 0) := by
  rw [dgs_zero, List.nil_append] at h
  have hp : 0 < m := by have := letterOk_pos h1; omega
  have hd : d.size = (dgs 10 m).length := by rw [← h, Array.length_toList]; rfl
  have := refR_dec (s := ⟨#[38, 35]⟩ ++ d ++ ⟨#[59]⟩ ++ t) (D := dgs 10 m) (r := t.data.toList) (by simp [h]) (dgs_all (.inl rfl) m) (dgs_pos (.inl rfl) hp) (by have := dgs_len (b := 10) (.inl rfl) 7 m (by omega); omega) (by rw [show numV 10 (dgs 10 m) = m from dgs_num (b := 10) (.inl rfl) m]; exact h1)
  rw [this, show numV 10 (dgs 10 m) = m from dgs_num (b := 10) (.inl rfl) m, hd]
theorem numV_zero (l : List UInt8) : numV 16 (48 :: l) = numV 16 l := rfl
theorem hex_good {m : Nat} {d t : ByteArray} (h1 : letterOk m = true) (hm : m ≤ 1114111) (h : dgs 16 0 ++ d.data.toList = dgs 16 m) : refR (⟨#[38, 35, 120, 48]⟩ ++ d ++ ⟨#[59]⟩ ++ t) = (letterS m, (d.size : Int) + 5, 0) := by
  rw [dgs_zero, List.nil_append] at h
  have hd : d.size = (dgs 16 m).length := by rw [← h, Array.length_toList]; rfl
  have hv : numV 16 (48 :: dgs 16 m) = m := by rw [numV_zero]; exact dgs_num (b := 16) (.inr rfl) m
  have := refR_hex (s := ⟨#[38, 35, 120, 48]⟩ ++ d ++ ⟨#[59]⟩ ++ t) (D := 48 :: dgs 16 m) (r := t.data.toList) (by simp [h]) (by
    intro x hx
    rcases List.mem_cons.1 hx with rfl | hx
    · decide
    · exact dgs_all (.inr rfl) m x hx) (by simp) (by have := dgs_len (b := 16) (.inr rfl) 7 m (by omega); simp; omega) (by rw [hv]; exact h1)
  rw [this, hv, hd]
  congr 2
set_option maxHeartbeats 1000000 in
theorem walk_CharsNumbers (W : World) (v0 v1 : Value) (a0 : Arg Try.prog W 3 v0) (a1 : Arg Try.prog W 9 v1) : Calls Try.prog 6 #[v0, v1] W fun e W' => e = .returned (.bool true) ∧ Below W.heap.size W W' := by
  obtain ⟨n, rfl, hn⟩ := arg_int a0
  obtain ⟨s, rfl⟩ := arg_string a1
  clear a0 a1
  have H0 := Lib.hid (fun w => cut_any s w)
  have hs := cutS_size s
  generalize cutS s = t at H0 hs
  have H1 := Lib.hid (fun w => Letter_any n w hn)
  have HL := Lib.hid (fun w => lives_any w)
  cases hl : letterOk n with
  | false =>
    rw [hl] at H1
    clear hl hn
    generalize letterS n = u at H1
    go_enter Try.func6, Try.ntmps6
    go_wp2_with (first
      | (go_at_call 16; with_reducible refine (H0.out _).mono ?_; rintro e w1 ⟨rfl, rfl⟩)
      | (go_at_call 13; with_reducible refine (H1.out _).mono ?_; rintro e w1 ⟨rfl, hb⟩; have HB := Lib.hid hb; clear hb)
      | (go_at_call 15; with_reducible refine (HL.out _).mono ?_; rintro e w3 ⟨rfl, hb⟩; have HB3 := Lib.hid hb; clear hb))
    go_ret
    exact ⟨rfl, HB.out.trans (HB3.out.mono HB.out.size)⟩
  | true =>
    rw [hl] at H1
    obtain ⟨m, rfl⟩ : ∃ m : Nat, n = m := ⟨n.toNat, by have := ok_bounds hl; omega⟩
    have hm1 : m ≤ 1114111 := by have := ok_bounds hl; omega
    have Hl := Lib.hid hl
    clear hl hn
    generalize hu : letterS m = u at H1
    have Hu := Lib.hid hu
    clear hu
    go_enter Try.func6, Try.ntmps6
    go_wp2_with (first
      | (go_at_call 16; with_reducible refine (H0.out _).mono ?_; rintro e w1 ⟨rfl, rfl⟩)
      | (go_at_call 13; with_reducible refine (H1.out _).mono ?_; rintro e w1 ⟨rfl, hb⟩; have HB := Lib.hid hb; clear hb))
    go_loop [9, 7] (fun kv dv => ∃ (k : Nat) (d : ByteArray), k ≤ m ∧ d.size ≤ 10 ∧ kv = .int .i64 k ∧ dv = .string d ∧ Hid (dgs 10 k ++ d.data.toList = dgs 10 m)) (fun kv _ => (intOf kv).toNat)
    case atStart => exact ⟨m, ⟨#[]⟩, Nat.le_refl _, by decide, rfl, rfl, Lib.hid (by simp)⟩
    case round =>
      obtain ⟨k, d, hkm, hd10, rfl, rfl, HD⟩ := hrel
      rcases Nat.eq_zero_or_pos k with h0 | h0
      · subst h0
        have Hr1 := Lib.hid (dec_good (t := t) Hl.out hm1 HD.out)
        have Hf1 := Lib.hid (fun w => Ref_any (⟨#[38, 35]⟩ ++ d ++ ⟨#[59]⟩ ++ t) w (by rw [dec_size]; omega))
        rw [Hr1.out, Hu.out] at Hf1
        clear HD Hr1
        go_wp2
        go_loop [10, 8] (fun kv dv => ∃ (k : Nat) (d : ByteArray), k ≤ m ∧ d.size ≤ 10 ∧ kv = .int .i64 k ∧ dv = .string d ∧ Hid (dgs 16 k ++ d.data.toList = dgs 16 m)) (fun kv _ => (intOf kv).toNat)
        case atStart => exact ⟨m, ⟨#[]⟩, Nat.le_refl _, by decide, rfl, rfl, Lib.hid (by simp)⟩
        case round =>
          obtain ⟨k, x, hkm2, hx10, rfl, rfl, HD⟩ := hrel
          rcases Nat.eq_zero_or_pos k with h0 | h0
          · subst h0
            have Hr2 := Lib.hid (hex_good (t := t) Hl.out hm1 HD.out)
            have Hf2 := Lib.hid (fun w => Ref_any (⟨#[38, 35, 120, 48]⟩ ++ x ++ ⟨#[59]⟩ ++ t) w (by rw [hex_size]; omega))
            rw [Hr2.out, Hu.out] at Hf2
            clear HD Hr2
            have Hf1 := Lib.hid (show ∀ w, Calls Try.prog 17 #[.string (⟨#[38, 35]⟩ ++ d ++ ⟨#[59]⟩ ++ t)] w fun e w' => e = .returned (.tuple #[.string u, .int .i64 ((d.size : Int) + 3), .int .i64 0]) ∧ Below w.heap.size w w' from Hf1.out)
            have Hf2 := Lib.hid (show ∀ w, Calls Try.prog 17 #[.string (⟨#[38, 35, 120, 48]⟩ ++ x ++ ⟨#[59]⟩ ++ t)] w fun e w' => e = .returned (.tuple #[.string u, .int .i64 ((x.size : Int) + 5), .int .i64 0]) ∧ Below w.heap.size w w' from Hf2.out)
            go_wp2_with (first
              | (go_at_call 17; with_reducible refine (Hf1.out _).mono ?_; rintro e w2 ⟨rfl, hb⟩; have HB2 := Lib.hid (HB.out.trans (hb.mono HB.out.size)); clear hb)
              | (go_at_call 17; with_reducible refine (Hf2.out _).mono ?_; rintro e w3 ⟨rfl, hb⟩; have HB3 := Lib.hid (HB2.out.trans (hb.mono HB2.out.size)); clear hb)
              | (go_at_call 15; with_reducible refine (HL.out _).mono ?_; rintro e w4 ⟨rfl, hb⟩; have HB4 := Lib.hid (HB3.out.trans (hb.mono HB3.out.size)); clear hb))
            go_ret
            exact ⟨rfl, HB4.out⟩
          · have Hn := Lib.hid (num_next (b := 16) (.inr rfl) hm1 h0 (ext_hex_all ⟨k % 16, Nat.mod_lt _ (by omega)⟩) HD.out)
            go_wp2
            go_round
            case rel => exact ⟨k / 16, _, by omega, Hn.out.2, by go_num, rfl, Lib.hid Hn.out.1⟩
            case measure => simp [intOf]; omega
      · have Hn := Lib.hid (num_next (b := 10) (.inl rfl) hm1 h0 (ext_dec_all ⟨k % 10, Nat.mod_lt _ (by omega)⟩) HD.out)
        go_wp2
        go_round
        case rel => exact ⟨k / 10, _, by omega, Hn.out.2, by go_num, rfl, Lib.hid Hn.out.1⟩
        case measure => simp [intOf]; omega
end Go.Proofs.Ytnkbeaipgadphaa
