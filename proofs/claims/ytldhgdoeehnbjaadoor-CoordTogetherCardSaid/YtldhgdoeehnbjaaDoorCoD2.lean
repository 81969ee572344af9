/- scopes: laws of what they are within others. Plain. -/
import Derived.Test.YtldhgdoeehnbjaaDoorCoW6
namespace Go.Proofs.YtldhgdoeehnbjaaDoor
theorem derive_cases (o i : Int) : (deriveI o i = 0 ∧ ¬ ((o = 1 ∨ o = 2 ∨ o = 3 ∨ o = 5) ∧ (i = 1 ∨ i = 2))) ∨ (o = 1 ∧ (i = 1 ∨ i = 2) ∧ deriveI o i = i) ∨ ((o = 2 ∨ o = 3 ∨ o = 5) ∧ (i = 1 ∨ i = 2) ∧ deriveI o i = o) := by
  unfold deriveI
  repeat' split
  all_goals omega
theorem derive_assoc (a b c : Int) : deriveI (deriveI a b) c = deriveI a (deriveI b c) := by
  have h1 := derive_cases a b
  have h2 := derive_cases b c
  have h3 := derive_cases (deriveI a b) c
  have h4 := derive_cases a (deriveI b c)
  generalize deriveI a b = x at *
  generalize deriveI b c = y at *
  generalize deriveI x c = u at *
  generalize deriveI a y = v at *
  omega
theorem wider_assoc (a b c : Int) : widerI (widerI a b) c = widerI a (widerI b c) := by
  unfold widerI
  repeat' split
  all_goals first | rfl | omega
theorem wider_self (a : Int) : widerI a a = a := by unfold widerI; split <;> rfl
theorem wider_comm {a b : Int} (ha : 1 ≤ a ∧ a ≤ 5) (hb : 1 ≤ b ∧ b ≤ 5) : widerI b a = widerI a b := by
  unfold widerI widthI
  repeat' split
  all_goals omega
theorem wider_in (a b : Int) : widerI a b = a ∨ widerI a b = b := by unfold widerI; split <;> simp
theorem derive_wide (a b : Int) (h : deriveI a b ≠ 0) : widerI a (deriveI a b) = a ∧ visB (deriveI a b) 5 = true ∧ 1 ≤ deriveI a b ∧ deriveI a b ≤ 5 := by
  have h1 := derive_cases a b
  generalize deriveI a b = x at *
  refine ⟨?_, decide_eq_true (by omega), by omega, by omega⟩
  unfold widerI widthI
  repeat' split
  all_goals omega
end Go.Proofs.YtldhgdoeehnbjaaDoor
