/- Chains and rounds of properties. Plain. -/
import Derived.Test.YtpgdioopkcfjdaaPrD4
namespace Go.Proofs.Ytpgdioopkcfjdaa

/-- a number's digits (below 100) -/
def digs (k : Nat) : Bs := if k < 10 then [UInt8.ofNat (48 + k)] else [UInt8.ofNat (48 + k / 10), UInt8.ofNat (48 + k % 10)]
def refTo (k : Nat) : Bs := 36 :: 123 :: (digs k ++ [125])
def roundV (n : Nat) (round : Bool) (i : Nat) : Bs := if i + 1 = n then (if round then refTo 1 else [101, 110, 100]) else refTo (i + 2)
def roundL (n : Nat) (round : Bool) : PL := (List.range n).map fun i => (digs (i + 1), roundV n round i)
def roundT : Bs := 60 :: (refTo 1 ++ [62])
def roundX (n : Nat) (round : Bool) : Ans := (txtP (fun done m => valP (roundL n round) 32 [] done m) (roundL n round) [] [] [] roundT).1
def roundR (n : Nat) (round : Bool) : Ans := if 32 < n then .big (digs 33) else if round then .loop (digs 1) else .ok [60, 101, 110, 100, 62]
def roundOK (n : Nat) (round : Bool) : Bool := decide (roundX n round = roundR n round)
set_option maxRecDepth 100000 in
theorem round_all : ((List.range 61).all fun n => n == 0 || (roundOK n true && roundOK n false)) = true := by decide +kernel
theorem round_eq (n : Nat) (round : Bool) (h0 : 0 < n) (h1 : n ≤ 60) : roundX n round = roundR n round := by
  have h := List.all_eq_true.1 round_all n (List.mem_range.2 (by omega))
  have hn : (n == 0) = false := by simp; omega
  rw [hn, Bool.false_or, Bool.and_eq_true] at h
  cases round
  · exact of_decide_eq_true h.2
  · exact of_decide_eq_true h.1
theorem roundL_snoc (n : Nat) (round : Bool) (k : Nat) : (List.range (k + 1)).map (fun i => (digs (i + 1), roundV n round i)) = (List.range k).map (fun i => (digs (i + 1), roundV n round i)) ++ [(digs (k + 1), roundV n round k)] := by
  rw [List.range_succ]; simp
end Go.Proofs.Ytpgdioopkcfjdaa
