/- chars.span, digit. -/
import Derived.Test.YtnkbeaipgadphaaChW1
namespace Go.Proofs.Ytnkbeaipgadphaa
open Go.RowKit
open C01

/-- The byte at a place. -/
def byteN (s : ByteArray) (k : Nat) : Nat := (s.data.toList.getD k 0).toNat
theorem byteN_eq {s : ByteArray} {k : Nat} (h : k < s.size) : s[k].toNat = byteN s k := by
  have h' : k < s.data.toList.length := by rw [Array.length_toList]; exact h
  unfold byteN List.getD
  rw [List.getElem?_eq_getElem h']
  rfl
theorem spanN_eq {p : Int → Bool} : ∀ {l : List UInt8} {n : Nat}, n ≤ l.length → (∀ k, k < n → p ((l.getD k 0).toNat : Nat) = true) → (n < l.length → p ((l.getD n 0).toNat : Nat) = false) → spanN p l = n
  | [], n, hn, _, _ => by simp at hn; subst hn; rfl
  | x :: l, 0, _, _, he => by
    have : p (x.toNat : Nat) = false := he (by simp)
    unfold spanN
    rw [List.takeWhile_cons, this]; rfl
  | x :: l, n + 1, hn, h, he => by
    have hx : p (x.toNat : Nat) = true := h 0 (by omega)
    have ih := spanN_eq (p := p) (l := l) (n := n) (by simpa using hn) (fun k hk => h (k + 1) (by omega)) (fun hk => he (by simpa using hk))
    unfold spanN at ih ⊢
    rw [List.takeWhile_cons, hx]
    simp only [if_true, List.length_cons, ih]
theorem byteN_lt (s : ByteArray) (k : Nat) : byteN s k ≤ 255 := by unfold byteN; have := (s.data.toList.getD k 0).toNat_lt; omega
set_option maxHeartbeats 400000 in
theorem span0_any (f : FuncId) (p : Int → Bool) (s : ByteArray) (w : World) (hs : s.size ≤ 1000000)
    (hcf : ∀ (args : Array Value) (w : World), (callFunc f args).run Try.prog w = .ok (.enter f args) w)
    (hf : ∀ x : Nat, x ≤ 255 → Calls Try.prog f #[.int .u8 (x : Nat)] w fun e w' => e = .returned (.bool (p x)) ∧ w = w') :
    Calls Try.prog 36 #[.string s, .func (.func f) #[] #[]] w fun e w' => e = .returned (.int .i64 (spanN p s.data.toList : Nat)) ∧ w = w' := by
  have Hf := Lib.hid hf
  clear hf
  go_enter Try.func36, Try.ntmps36
  go_wp2
  go_loop [5] (fun sv => ∃ n : Nat, n ≤ s.size ∧ sv = .int .i64 n ∧ Hid (∀ k, k < n → p (byteN s k) = true)) (fun sv => s.size - (intOf sv).toNat)
  case atStart => exact ⟨0, Nat.zero_le _, rfl, fun k hk => absurd hk (Nat.not_lt_zero _)⟩
  case round =>
    obtain ⟨n, hnle, rfl, Hi⟩ := hrel
    by_cases hnlt : n < s.size
    · have Hc := Lib.hid (Hf.out (byteN s n) (byteN_lt s n))
      cases hx : p (byteN s n) with
      | true =>
        rw [hx] at Hc
        have hbn := byteN_eq hnlt
        have Hx := Lib.hid hx
        clear hx
        go_wp2_with fail
        refine Hc.out.mono ?_
        rintro e w1 ⟨rfl, rfl⟩
        clear hbn
        go_wp2
        go_round
        case rel => exact ⟨n + 1, by omega, by go_num, fun k hk => by
          by_cases hkn : k = n
          · rw [hkn]; exact Hx.out
          · exact Hi.out k (by omega)⟩
        case measure => simp [intOf]; omega
      | false =>
        rw [hx] at Hc
        have hbn := byteN_eq hnlt
        have Hx := Lib.hid hx
        clear hx
        go_wp2_with fail
        refine Hc.out.mono ?_
        rintro e w1 ⟨rfl, rfl⟩
        clear hbn
        go_wp2
        go_ret
        exact ⟨ret_int (by rw [spanN_eq (n := n) (by rw [Array.length_toList]; exact hnle) Hi.out (fun _ => Hx.out)]), rfl⟩
    · obtain rfl : n = s.size := by omega
      go_wp2
      go_ret
      exact ⟨ret_int (by rw [spanN_eq (n := s.size) (by rw [Array.length_toList]; exact Nat.le_refl _) Hi.out (fun h => absurd h (by rw [Array.length_toList]; exact Nat.lt_irrefl _))]), rfl⟩
set_option maxHeartbeats 400000 in
theorem span1_any (f : FuncId) (c1 : Value) (p : Int → Bool) (s : ByteArray) (w : World) (hs : s.size ≤ 1000000)
    (hcf : ∀ (args : Array Value) (w : World), (callFunc f args).run Try.prog w = .ok (.enter f args) w)
    (hf : ∀ x : Nat, x ≤ 255 → Calls Try.prog f #[.int .u8 (x : Nat), c1] w fun e w' => e = .returned (.bool (p x)) ∧ w = w') :
    Calls Try.prog 36 #[.string s, .func (.func f) #[] #[c1]] w fun e w' => e = .returned (.int .i64 (spanN p s.data.toList : Nat)) ∧ w = w' := by
  have Hf := Lib.hid hf
  clear hf
  go_enter Try.func36, Try.ntmps36
  go_wp2
  go_loop [5] (fun sv => ∃ n : Nat, n ≤ s.size ∧ sv = .int .i64 n ∧ Hid (∀ k, k < n → p (byteN s k) = true)) (fun sv => s.size - (intOf sv).toNat)
  case atStart => exact ⟨0, Nat.zero_le _, rfl, fun k hk => absurd hk (Nat.not_lt_zero _)⟩
  case round =>
    obtain ⟨n, hnle, rfl, Hi⟩ := hrel
    by_cases hnlt : n < s.size
    · have Hc := Lib.hid (Hf.out (byteN s n) (byteN_lt s n))
      cases hx : p (byteN s n) with
      | true =>
        rw [hx] at Hc
        have hbn := byteN_eq hnlt
        have Hx := Lib.hid hx
        clear hx
        go_wp2_with fail
        refine Hc.out.mono ?_
        rintro e w1 ⟨rfl, rfl⟩
        clear hbn
        go_wp2
        go_round
        case rel => exact ⟨n + 1, by omega, by go_num, fun k hk => by
          by_cases hkn : k = n
          · rw [hkn]; exact Hx.out
          · exact Hi.out k (by omega)⟩
        case measure => simp [intOf]; omega
      | false =>
        rw [hx] at Hc
        have hbn := byteN_eq hnlt
        have Hx := Lib.hid hx
        clear hx
        go_wp2_with fail
        refine Hc.out.mono ?_
        rintro e w1 ⟨rfl, rfl⟩
        clear hbn
        go_wp2
        go_ret
        exact ⟨ret_int (by rw [spanN_eq (n := n) (by rw [Array.length_toList]; exact hnle) Hi.out (fun _ => Hx.out)]), rfl⟩
    · obtain rfl : n = s.size := by omega
      go_wp2
      go_ret
      exact ⟨ret_int (by rw [spanN_eq (n := s.size) (by rw [Array.length_toList]; exact Nat.le_refl _) Hi.out (fun h => absurd h (by rw [Array.length_toList]; exact Nat.lt_irrefl _))]), rfl⟩
end Go.Proofs.Ytnkbeaipgadphaa
