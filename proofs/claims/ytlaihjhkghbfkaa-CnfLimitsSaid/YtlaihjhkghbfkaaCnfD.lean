/- Deals, and what the functions of the layers cnf (program and reference) compute of them: plain definitions. -/
import Derived.Test.YtlaihjhkghbfkaaBase
namespace Go.Proofs.Ytlaihjhkghbfkaa
open Go.RowKit

abbrev KeyD := ByteArray × ByteArray × ByteArray × ByteArray
abbrev ItemD := KeyD × ByteArray
def keyCells (k : KeyD) : List Value := [.string k.1, .string k.2.1, .string k.2.2.1, .string k.2.2.2]
def itemCells (i : ItemD) : List Value := keyCells i.1 ++ [.string i.2]
abbrev VItem : RdV ItemD := VCells itemCells
abbrev RItems := RArr 5 VItem
theorem RItems.stable : Stable RItems := RArr.stable (VCells.stable _)
structure DealD where
  items : List ItemD
  wants : List (List (List Int))
  root : Int
def RDeal : Rd DealD := fun w S v d => ∃ s0 s1, v = .agg #[s0, s1, .int .i64 d.root] ∧ RItems w S s0 d.items ∧ RIntsss w S s1 d.wants ∧ -9223372036854775808 ≤ d.root ∧ d.root ≤ 9223372036854775807

def isItemB (n0 : Nat) (n : Int) : Bool := decide (0 ≤ n) && decide (n < n0)
def badW (n0 : Nat) (w : List Int) : Bool := w.any fun n => !isItemB n0 n
def badR (n0 : Nat) (ws : List (List Int)) : Bool := ws.any (badW n0)
def badRR (n0 : Nat) (wss : List (List (List Int))) : Bool := wss.any (badR n0)
/-- P17.1, of the program and of the reference. -/
def mayN (n0 : Nat) (r : Int) (wss : List (List (List Int))) : Nat :=
  if 1024 < n0 then 2 else if isItemB n0 r = false ∨ wss.length ≠ n0 then 1 else if badRR n0 wss then 1 else 0
def errOf (k : Nat) : Int := if k = 2 then 2 else if k = 1 then 1 else 0
def lightR (ws : List (List Int)) : Bool := decide (ws.length ≤ 10) && ws.all fun w => decide (w.length ≤ 40)
def lightB (n0 : Nat) (wss : List (List (List Int))) : Bool := decide (n0 ≤ 40) && decide (wss.length ≤ 40) && wss.all lightR

theorem any_take_succ {α : Type} (p : α → Bool) (l : List α) (k : Nat) (h : k < l.length) : (l.take (k + 1)).any p = ((l.take k).any p || p l[k]) := by
  rw [List.take_succ_eq_append_getElem h, List.any_append]; simp
theorem all_take_succ {α : Type} (p : α → Bool) (l : List α) (k : Nat) (h : k < l.length) : (l.take (k + 1)).all p = ((l.take k).all p && p l[k]) := by
  rw [List.take_succ_eq_append_getElem h, List.all_append]; simp
theorem any_at {α : Type} {p : α → Bool} {l : List α} {k : Nat} {h : k < l.length} (hp : p l[k] = true) : l.any p = true := List.any_eq_true.2 ⟨_, List.getElem_mem h, hp⟩
theorem all_at {α : Type} {p : α → Bool} {l : List α} {k : Nat} {h : k < l.length} (hp : p l[k] = false) : l.all p = false := List.all_eq_false.2 ⟨_, List.getElem_mem h, by simp [hp]⟩
end Go.Proofs.Ytlaihjhkghbfkaa
