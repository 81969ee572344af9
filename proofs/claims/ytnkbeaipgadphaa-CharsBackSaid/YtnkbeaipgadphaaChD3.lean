/- chars: a reference by a number. Plain. -/
import Derived.Test.YtnkbeaipgadphaaChW5
namespace Go.Proofs.Ytnkbeaipgadphaa
open C01
theorem spanN_le (p : Int → Bool) : ∀ l : List UInt8, spanN p l ≤ l.length
  | [] => Nat.le_refl _
  | x :: l => by
    have := spanN_le p l
    unfold spanN at this ⊢
    rw [List.takeWhile_cons]
    split
    · simp only [List.length_cons]; omega
    · simp
theorem spanN_all {p : Int → Bool} : ∀ {l : List UInt8} {k : Nat}, k < spanN p l → p ((l.getD k 0).toNat : Nat) = true
  | [], k, h => absurd h (Nat.not_lt_zero _)
  | x :: l, k, h => by
    unfold spanN at h
    rw [List.takeWhile_cons] at h
    by_cases hx : p (x.toNat : Nat) = true
    · rw [if_pos hx] at h
      match k, h with
      | 0, _ => exact hx
      | k + 1, h => exact spanN_all (p := p) (l := l) (k := k) (by unfold spanN; simpa using h)
    · rw [if_neg hx] at h
      exact absurd h (Nat.not_lt_zero _)
theorem spanN_out {p : Int → Bool} : ∀ {l : List UInt8}, spanN p l < l.length → p ((l.getD (spanN p l) 0).toNat : Nat) = false
  | [], h => absurd h (Nat.not_lt_zero _)
  | x :: l, h => by
    by_cases hx : p (x.toNat : Nat) = true
    · have e : spanN p (x :: l) = spanN p l + 1 := by unfold spanN; rw [List.takeWhile_cons, if_pos hx]; rfl
      rw [e] at h ⊢
      exact spanN_out (l := l) (by simpa using h)
    · have e : spanN p (x :: l) = 0 := by unfold spanN; rw [List.takeWhile_cons, if_neg hx]; rfl
      rw [e]
      exact Bool.not_eq_true _ ▸ hx
/-- the number of the first n digits -/
def numK (base : Int) (s : ByteArray) : Nat → Int
  | 0 => 0
  | n + 1 => numK base s n * base + digI (byteN s n : Nat) base
theorem digI_lt (c base : Int) (hb : base = 10 ∨ base = 16) : digI c base < base := by
  rw [dig_eq]
  repeat' split
  all_goals omega
theorem numK_bound {base : Int} {s : ByteArray} (hb : base = 10 ∨ base = 16) : ∀ n : Nat, (∀ i, i < n → digB base (byteN s i : Nat) = true) → 0 ≤ numK base s n ∧ numK base s n < 16 ^ n
  | 0, _ => by simp [numK]
  | n + 1, h => by
    obtain ⟨h1, h2⟩ := numK_bound hb n fun i hi => h i (by omega)
    have h3 : 0 ≤ digI (byteN s n : Nat) base := by have := h n (by omega); unfold digB at this; simpa using this
    have h4 := digI_lt (byteN s n : Nat) base hb
    have e : (16 : Int) ^ (n + 1) = 16 ^ n * 16 := Int.pow_succ ..
    rw [e]
    simp only [numK]
    rcases hb with rfl | rfl <;> omega
theorem numK_le {base : Int} {s : ByteArray} {n : Nat} (hb : base = 10 ∨ base = 16) (hn : n ≤ 8) (h : ∀ i, i < n → digB base (byteN s i : Nat) = true) : 0 ≤ numK base s n ∧ numK base s n < 4294967296 := by
  obtain ⟨h1, h2⟩ := numK_bound hb n h
  refine ⟨h1, Int.lt_of_lt_of_le h2 ?_⟩
  have : (16 : Nat) ^ n ≤ 16 ^ 8 := Nat.pow_le_pow_right (by omega) hn
  have e : ((16 ^ n : Nat) : Int) = (16 : Int) ^ n := by push_cast; rfl
  have e8 : (16 : Nat) ^ 8 = 4294967296 := by decide
  rw [← e]
  omega
/-- what number answers of a text of digits and more -/
def numR (s : ByteArray) (ahead base : Int) : ByteArray × Int × Int :=
  if 8 < spanN (digB base) s.data.toList then (⟨#[]⟩, 0, 12)
  else if spanN (digB base) s.data.toList = s.size then (⟨#[]⟩, 0, 13)
  else if spanN (digB base) s.data.toList = 0 ∨ byteN s (spanN (digB base) s.data.toList) ≠ 59 then (⟨#[]⟩, 0, 12)
  else if letterOk (numK base s (spanN (digB base) s.data.toList)) then (letterS (numK base s (spanN (digB base) s.data.toList)), ahead + (spanN (digB base) s.data.toList : Nat) + 1, 0)
  else (⟨#[]⟩, 0, 12)
end Go.Proofs.Ytnkbeaipgadphaa
