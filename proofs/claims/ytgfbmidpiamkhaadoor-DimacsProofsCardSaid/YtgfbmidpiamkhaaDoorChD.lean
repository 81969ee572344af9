/- chars: what the functions compute. Plain: no program is in sight. -/
namespace Go.Proofs.YtgfbmidpiamkhaaDoor
namespace C01

def blankB (c : Int) : Bool := c == 32 || c == 9 || c == 10 || c == 13
def digitB (c : Int) : Bool := decide (48 ≤ c) && decide (c ≤ 57)
def firstB (c : Int) : Bool := (decide (65 ≤ c) && decide (c ≤ 90)) || (decide (97 ≤ c) && decide (c ≤ 122)) || c == 95
def nameB (c : Int) : Bool := firstB c || digitB c || c == 46 || c == 45 || c == 58
def textB (c : Int) : Bool := decide (32 ≤ c) || blankB c
def markB (c : Int) : Bool := c == 46 || c == 45 || c == 58
def i1 (b : Bool) (n : Int) : Int := if b then n else 0
def classI (c : Int) : Int := i1 (blankB c) 1 + i1 (digitB c) 10 + i1 (firstB c) 12 + i1 (markB c) 8 + i1 (textB c) 16
def isI (c k : Int) : Bool := classI c / k % 2 == 1
theorem class_all : ∀ n : Fin 256, isI (n.val : Int) 1 = blankB (n.val : Int) ∧ isI (n.val : Int) 2 = digitB (n.val : Int) ∧ isI (n.val : Int) 4 = firstB (n.val : Int) ∧ isI (n.val : Int) 8 = nameB (n.val : Int) ∧ isI (n.val : Int) 16 = textB (n.val : Int) := by decide +kernel
theorem class_eq {c : Int} (h0 : 0 ≤ c) (h1 : c ≤ 255) : isI c 1 = blankB c ∧ isI c 2 = digitB c ∧ isI c 4 = firstB c ∧ isI c 8 = nameB c ∧ isI c 16 = textB c := by
  have := class_all ⟨c.toNat, by omega⟩
  simp only [Int.toNat_of_nonneg h0] at this
  exact this
theorem classI_bounds (c : Int) : 0 ≤ classI c ∧ classI c ≤ 47 := by
  unfold classI i1
  split <;> split <;> split <;> split <;> split <;> omega
/-- how many bytes at the front are so -/
def spanN (p : Int → Bool) (l : List UInt8) : Nat := (l.takeWhile fun x => p (x.toNat : Int)).length
/-- the value of a digit to a base; -1: it is none -/
def digI (c base : Int) : Int := if 48 ≤ c ∧ c ≤ 57 then c - 48 else if base = 16 ∧ 97 ≤ c ∧ c ≤ 102 then c - 97 + 10 else if base = 16 ∧ 65 ≤ c ∧ c ≤ 70 then c - 65 + 10 else -1
theorem dig_eq (c base : Int) : digI c base = if 48 ≤ c ∧ c ≤ 57 then c - 48 else if base = 16 ∧ 97 ≤ c ∧ c ≤ 102 then c - 97 + 10 else if base = 16 ∧ 65 ≤ c ∧ c ≤ 70 then c - 65 + 10 else -1 := rfl
theorem dig_ranges {c : Int} : c < 48 ∨ (48 ≤ c ∧ c ≤ 57) ∨ (57 < c ∧ c < 65) ∨ (65 ≤ c ∧ c ≤ 70) ∨ (70 < c ∧ c < 97) ∨ (97 ≤ c ∧ c ≤ 102) ∨ 102 < c := by omega
def letterOk (n : Int) : Bool := decide (n = 9 ∨ n = 10 ∨ n = 13 ∨ (32 ≤ n ∧ n ≤ 1114111 ∧ ¬ (55296 ≤ n ∧ n ≤ 57343)))
theorem letter_no {n : Int} (h : ¬ (n = 9 ∨ n = 10 ∨ n = 13 ∨ (32 ≤ n ∧ n ≤ 1114111 ∧ ¬ (55296 ≤ n ∧ n ≤ 57343)))) : letterOk n = false := decide_eq_false h
theorem letter_yes {n : Int} (h : n = 9 ∨ n = 10 ∨ n = 13 ∨ (32 ≤ n ∧ n ≤ 1114111 ∧ ¬ (55296 ≤ n ∧ n ≤ 57343))) : letterOk n = true := decide_eq_true h
end C01
end Go.Proofs.YtgfbmidpiamkhaaDoor
