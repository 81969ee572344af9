/- chars: a text, escaped. Plain. -/
namespace Go.Proofs.Ytnkbeaipgadphaa
namespace C01
/-- a byte, escaped -/
def escB (attr : Bool) (c : UInt8) : List UInt8 :=
  if c = 38 then [38, 97, 109, 112, 59] else if c = 60 then [38, 108, 116, 59] else if c = 62 then [38, 103, 116, 59] else if c = 13 then [38, 35, 49, 51, 59] else if attr = true ∧ c = 34 then [38, 113, 117, 111, 116, 59] else if attr = true ∧ c = 9 then [38, 35, 57, 59] else if attr = true ∧ c = 10 then [38, 35, 49, 48, 59] else [c]
def escL (attr : Bool) (l : List UInt8) : List UInt8 := l.flatMap (escB attr)
theorem escB_le (attr : Bool) (c : UInt8) : (escB attr c).length ≤ 6 := by
  unfold escB
  repeat' split
  all_goals simp
theorem escL_succ {attr : Bool} {l : List UInt8} {k : Nat} (h : k < l.length) : escL attr (l.take (k + 1)) = escL attr (l.take k) ++ escB attr l[k] := by
  unfold escL
  rw [List.take_succ_eq_append_getElem h, List.flatMap_append]
  simp
theorem escL_le (attr : Bool) (l : List UInt8) : (escL attr l).length ≤ 6 * l.length := by
  induction l with
  | nil => simp [escL]
  | cons a l ih =>
    have : escL attr (a :: l) = escB attr a ++ escL attr l := by simp [escL]
    rw [this, List.length_append, List.length_cons]
    have := escB_le attr a
    omega
end C01
end Go.Proofs.Ytnkbeaipgadphaa
