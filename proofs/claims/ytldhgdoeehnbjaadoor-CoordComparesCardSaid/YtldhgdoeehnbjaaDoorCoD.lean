/- coord: ids and versions, by their bytes. Plain. -/
import Derived.Test.YtldhgdoeehnbjaaDoorChD
namespace Go.Proofs.YtldhgdoeehnbjaaDoor
open C01

/-- a byte of an id -/
def idB (c : Int) : Bool := nameB c && (c != 58)
/-- a byte of a version -/
def verB (c : Int) : Bool := (decide (97 ≤ c) && decide (c ≤ 122)) || (decide (65 ≤ c) && decide (c ≤ 90)) || digitB c || c == 46 || c == 45 || c == 95 || c == 43
def allB (p : Int → Bool) (s : ByteArray) : Bool := s.data.toList.all fun x => p (x.toNat : Int)
def idS (s : ByteArray) : Bool := allB idB s && decide (1 ≤ s.size) && decide (s.size ≤ 64)
def verS (s : ByteArray) : Bool := allB verB s && decide (1 ≤ s.size) && decide (s.size ≤ 64)
theorem idB_eq (c : Int) : idB c = ((decide (97 ≤ c) && decide (c ≤ 122)) || (decide (65 ≤ c) && decide (c ≤ 90)) || (decide (48 ≤ c) && decide (c ≤ 57)) || c == 46 || c == 45 || c == 95) := by
  unfold idB nameB firstB digitB
  rw [Bool.eq_iff_iff]
  simp only [Bool.and_eq_true, Bool.or_eq_true, decide_eq_true_eq, beq_iff_eq, bne_iff_ne]
  omega
end Go.Proofs.YtldhgdoeehnbjaaDoor
