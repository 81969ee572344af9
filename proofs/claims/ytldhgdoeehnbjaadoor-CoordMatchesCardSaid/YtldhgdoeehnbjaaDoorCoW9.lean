/- Matches and its reference. -/
import Derived.Test.YtldhgdoeehnbjaaDoorCoW4
namespace Go.Proofs.YtldhgdoeehnbjaaDoor
open Go.RowKit

def eqB (a b : ByteArray) : Bool := a.toList == b.toList
def matB (a b c d : ByteArray) : Bool := (starB a || eqB a c) && (starB b || eqB b d)
theorem matB_self (c d : ByteArray) : matB c d c d = true := by simp [matB, eqB]
theorem matB_star (c d : ByteArray) : matB ⟨#[42]⟩ ⟨#[42]⟩ c d = true := by
  have : starB ⟨#[42]⟩ = true := by decide +kernel
  simp [matB, this]
set_option maxHeartbeats 1000000 in
theorem Matches_any (a b c d : ByteArray) (w : World) : Calls Tryd.prog 12 #[.agg #[.string a, .string b], .agg #[.string c, .string d]] w fun e w' => e = .returned (.bool (matB a b c d)) ∧ Below w.heap.size w w' := by
  have Hr := Lib.hid (show matB a b c d = (((a.toList == [42]) || (a.toList == c.toList)) && ((b.toList == [42]) || (b.toList == d.toList))) from rfl)
  generalize matB a b c d = r at Hr ⊢
  cases h1 : (a.toList == [42]) <;> cases h2 : (a.toList == c.toList) <;> cases h3 : (b.toList == [42]) <;> cases h4 : (b.toList == d.toList)
  all_goals
    rw [h1, h2, h3, h4] at Hr
    go_enter Tryd.func12, Tryd.ntmps12
    go_wp2
    go_ret
    exact ⟨ret_bool (by rw [Hr.out]; rfl), (below_alloc w _).alloc (by simp) _⟩
set_option maxHeartbeats 1000000 in
theorem refMatches_any (a b c d : ByteArray) (w : World) : Calls Tryd.prog 13 #[.agg #[.string a, .string b], .agg #[.string c, .string d]] w fun e w' => e = .returned (.bool (matB a b c d)) ∧ Below w.heap.size w w' := by
  have Hr := Lib.hid (show matB a b c d = (((a.toList == [42]) || (a.toList == c.toList)) && ((b.toList == [42]) || (b.toList == d.toList))) from rfl)
  generalize matB a b c d = r at Hr ⊢
  cases h1 : (a.toList == [42]) <;> cases h2 : (a.toList == c.toList) <;> cases h3 : (b.toList == [42]) <;> cases h4 : (b.toList == d.toList)
  all_goals
    rw [h1, h2, h3, h4] at Hr
    have g1 : (a.toList != [42]) = !(a.toList == [42]) := rfl
    have g2 : (a.toList != c.toList) = !(a.toList == c.toList) := rfl
    rw [h1] at g1
    rw [h2] at g2
    go_enter Tryd.func13, Tryd.ntmps13
    go_wp2
    go_ret
    exact ⟨ret_bool (by rw [Hr.out]; rfl), (below_alloc w _).alloc (by simp) _⟩
end Go.Proofs.YtldhgdoeehnbjaaDoor
