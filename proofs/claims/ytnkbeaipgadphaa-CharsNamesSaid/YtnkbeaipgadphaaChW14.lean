/- Name and its reference; Trim and its reference. -/
import Derived.Test.YtnkbeaipgadphaaChW10
import Derived.Test.YtnkbeaipgadphaaChD3
namespace Go.Proofs.Ytnkbeaipgadphaa
open Go.RowKit
open C01

/-- the name with which a text begins: how many bytes -/
def nameN (s : ByteArray) : Nat := if s.size = 0 ∨ firstB (byteN s 0 : Nat) = false then 0 else spanN nameB s.data.toList
theorem size_pos {s : ByteArray} (h : ¬ s = ⟨#[]⟩) : 0 < s.size := by
  rcases Nat.lt_or_ge 0 s.size with h' | h'
  · exact h'
  · have h2 : s.size = 0 := by omega
    exact absurd (ByteArray.size_eq_zero_iff.1 h2) h
theorem nor {s : ByteArray} {b : Bool} (h : 0 < s.size) (hb : b = true) : ¬ (s.size = 0 ∨ b = false) := fun h' => by
  rcases h' with h' | h'
  · omega
  · rw [hb] at h'; cases h'
theorem Name_any (s : ByteArray) (w : World) (hs : s.size ≤ 1000000) : Calls Try.prog 30 #[.string s] w fun e w' => e = .returned (.int .i64 (nameN s : Nat)) ∧ w = w' := by
  have Hn := Lib.hid (show nameN s = if s.size = 0 ∨ firstB (byteN s 0 : Nat) = false then 0 else spanN nameB s.data.toList from rfl)
  rcases Classical.em (s = ⟨#[]⟩) with rfl | he
  · clear Hn
    have Hn : Hid (nameN ⟨#[]⟩ = 0) := Lib.hid rfl
    generalize nameN ⟨#[]⟩ = n at Hn ⊢
    go_enter Try.func30, Try.ntmps30
    go_wp2
    go_ret
    exact ⟨by rw [Hn.out]; rfl, rfl⟩
  · have h0 := size_pos he
    have e0 := str_ne he
    have hb0 := byteN_eq h0
    have H1 := Lib.hid (fun w => IsFirst_any (byteN s 0 : Nat) w)
    have H2 := Lib.hid (fun w => span0_any 27 nameB s w hs (fun args w => by kernel_rfl) (fun x hx => IsName_any (x : Nat) w))
    clear he
    cases hf : firstB (byteN s 0 : Nat) with
    | false =>
      have Hn := Lib.hid (Hn.out.trans (if_pos (.inr hf)))
      rw [hf] at H1
      clear hf
      generalize nameN s = n at Hn ⊢
      generalize byteN s 0 = x at H1 hb0
      go_enter Try.func30, Try.ntmps30
      go_wp2_with (go_at_call 26; with_reducible refine (H1.out _).mono ?_; rintro e w1 ⟨rfl, rfl⟩)
      go_ret
      exact ⟨by rw [Hn.out]; rfl, rfl⟩
    | true =>
      have Hn := Lib.hid (Hn.out.trans (if_neg (nor (by omega) hf)))
      rw [hf] at H1
      clear hf
      rw [Hn.out]
      clear Hn
      generalize byteN s 0 = x at H1 hb0
      generalize spanN nameB s.data.toList = n at H2 ⊢
      go_enter Try.func30, Try.ntmps30
      go_wp2_with (first | (go_at_call 26; with_reducible refine (H1.out _).mono ?_; rintro e w1 ⟨rfl, rfl⟩) | (go_at_call 36; with_reducible refine (H2.out _).mono ?_; rintro e w1 ⟨rfl, rfl⟩))
      go_ret
      exact ⟨rfl, rfl⟩
theorem isI_eq (x : Nat) (h : x ≤ 255) : isI (x : Int) 1 = blankB x ∧ isI (x : Int) 4 = firstB x ∧ isI (x : Int) 8 = nameB x := by
  obtain ⟨h1, _, h3, h4, _⟩ := class_eq (c := (x : Int)) (by omega) (by omega)
  exact ⟨h1, h3, h4⟩
theorem nameN_first {s : ByteArray} (h : 0 < s.size) (hf : firstB (byteN s 0 : Nat) = true) : nameN s = spanN nameB s.data.toList := by
  unfold nameN
  rw [if_neg (nor (by omega) hf)]
def FirstIs (s : ByteArray) (n : Nat) : Prop := 0 < n → firstB (byteN s 0 : Nat) = true
set_option maxHeartbeats 1000000 in
theorem refName_any (s : ByteArray) (w : World) (hs : s.size ≤ 1000000) : Calls Try.prog 31 #[.string s] w fun e w' => e = .returned (.int .i64 (nameN s : Nat)) ∧ w = w' := by
  go_enter Try.func31, Try.ntmps31
  go_wp2
  go_loop [4, 3] (fun sv nv => ∃ n : Nat, n ≤ s.size ∧ sv = .int .i64 n ∧ nv = .int .i64 n ∧ Hid (FirstIs s n) ∧ Hid (∀ k, k < n → nameB (byteN s k : Nat) = true)) (fun sv _ => s.size - (intOf sv).toNat)
  case atStart => exact ⟨0, Nat.zero_le _, rfl, rfl, fun h => absurd h (Nat.lt_irrefl _), fun k hk => absurd hk (Nat.not_lt_zero _)⟩
  case round =>
    obtain ⟨n, hns, rfl, rfl, Hf, Hi⟩ := hrel
    by_cases hn : n < s.size
    · have hbn := byteN_eq hn
      have hx := byteN_lt s n
      have H8 := Lib.hid (fun w => Is_any (byteN s n : Nat) 8 w (by omega))
      rw [(isI_eq _ hx).2.2] at H8
      cases h8 : nameB (byteN s n : Nat) with
      | false =>
        have Hr : Hid (nameN s = n) := Lib.hid (by
          unfold nameN
          by_cases h0 : n = 0
          · subst h0
            split
            · rfl
            · exact spanN_eq (Nat.zero_le _) (fun k hk => absurd hk (Nat.not_lt_zero _)) (fun _ => h8)
          · rw [if_neg (nor (by omega) (Hf.out (by omega)))]
            exact spanN_eq (by rw [Array.length_toList]; exact hns) Hi.out (fun _ => h8))
        rw [h8] at H8
        clear h8
        clear Hi Hf
        go_wp2_with (go_at_call 24; with_reducible refine (H8.out _).mono ?_; rintro e w1 ⟨rfl, rfl⟩)
        go_ret
        exact ⟨by rw [Hr.out]; rfl, rfl⟩
      | true =>
        have Hi2 : Hid (∀ k, k < n + 1 → nameB (byteN s k : Nat) = true) := Lib.hid (fun k hk => by
          rcases Nat.lt_or_ge k n with h | h
          · exact Hi.out k h
          · rw [show k = n by omega]; exact h8)
        rw [h8] at H8
        clear h8
        by_cases h0 : n = 0
        · subst h0
          have H4 := Lib.hid (fun w => Is_any (byteN s 0 : Nat) 4 w (by omega))
          rw [(isI_eq _ hx).2.1] at H4
          cases hf : firstB (byteN s 0 : Nat) with
          | false =>
            have Hr : Hid (nameN s = 0) := Lib.hid (by unfold nameN; rw [if_pos (.inr hf)])
            rw [hf] at H4
            clear hf Hf Hi Hi2
            go_wp2_with (first | (go_at_call 24; with_reducible refine (H8.out _).mono ?_; rintro e w1 ⟨rfl, rfl⟩) | (go_at_call 24; with_reducible refine (H4.out _).mono ?_; rintro e w1 ⟨rfl, rfl⟩))
            go_ret
            exact ⟨by rw [Hr.out]; rfl, rfl⟩
          | true =>
            have Hf2 : Hid (FirstIs s 1) := Lib.hid (fun _ => hf)
            rw [hf] at H4
            clear hf Hf Hi
            go_wp2_with (first | (go_at_call 24; with_reducible refine (H8.out _).mono ?_; rintro e w1 ⟨rfl, rfl⟩) | (go_at_call 24; with_reducible refine (H4.out _).mono ?_; rintro e w1 ⟨rfl, rfl⟩))
            go_round
            case rel => exact ⟨1, by omega, rfl, rfl, Hf2, Hi2⟩
            case measure => simp [intOf]; omega
        · have h0b : (((n : Nat) : Int) == 0) = false := beq_eq_false_iff_ne.2 (by omega)
          have Hf2 : Hid (FirstIs s (n + 1)) := Lib.hid (fun _ => Hf.out (by omega))
          clear Hf Hi h0
          go_wp2_with (go_at_call 24; with_reducible refine (H8.out _).mono ?_; rintro e w1 ⟨rfl, rfl⟩)
          go_round
          case rel => exact ⟨n + 1, by omega, by go_num, by go_num, Hf2, Hi2⟩
          case measure => simp [intOf]; omega
    · obtain rfl : n = s.size := by omega
      have Hr : Hid (nameN s = s.size) := Lib.hid (by
        unfold nameN
        by_cases h0 : s.size = 0
        · rw [if_pos (.inl h0), h0]
        · rw [if_neg (nor (by omega) (Hf.out (by omega)))]
          exact spanN_eq (by rw [Array.length_toList]; exact Nat.le_refl _) Hi.out (fun h => absurd h (by rw [Array.length_toList]; exact Nat.lt_irrefl _)))
      clear Hf Hi
      go_wp2
      go_ret
      exact ⟨by rw [Hr.out]; rfl, rfl⟩
end Go.Proofs.Ytnkbeaipgadphaa
