/- The document's example of a deal, and that it is as the document says. -/
import Derived.Test.YtlaihjhkghbfkaaCnfE4
namespace Go.Proofs.Ytlaihjhkghbfkaa
open Go.RowKit

def bG : ByteArray := ⟨#[103]⟩
def bA : ByteArray := ⟨#[97]⟩
def bB : ByteArray := ⟨#[98]⟩
def bJar : ByteArray := ⟨#[106, 97, 114]⟩
def b1 : ByteArray := ⟨#[49]⟩
def b2 : ByteArray := ⟨#[50]⟩
def exItems : List ItemD := [((bG, bA, bJar, ⟨#[]⟩), b1), ((bG, bB, bJar, ⟨#[]⟩), b1), ((bG, bB, bJar, ⟨#[]⟩), b2)]
def exWants : List (List (List Int)) := [[[1, 2]], [], []]
def DealPost (w : World) (e : Ending) (w' : World) : Prop :=
  ∃ s0 s1, e = .returned (.agg #[s0, s1, .int .i64 0]) ∧ RItems w' (Lt w'.heap.size) s0 exItems ∧ RIntsss w' (Lt w'.heap.size) s1 exWants ∧ Below w.heap.size w w'
def exCells : List Value := exItems.flatMap itemCells
theorem exCells_at (k : Nat) (hk : k < exItems.length) (j : Nat) (u : Value) (hu : (itemCells exItems[k])[j]? = some u) : exCells[0 + k * 5 + j]? = some u := by
  have h5 : (itemCells exItems[k]).length = 5 := rfl
  have hj : j < 5 := by have := (List.getElem?_eq_some_iff.1 hu).1; omega
  match k, hk, hj with
  | 0, _, hj => match j, hj with
    | 0, _ => exact hu
    | 1, _ => exact hu
    | 2, _ => exact hu
    | 3, _ => exact hu
    | 4, _ => exact hu
  | 1, _, hj => match j, hj with
    | 0, _ => exact hu
    | 1, _ => exact hu
    | 2, _ => exact hu
    | 3, _ => exact hu
    | 4, _ => exact hu
  | 2, _, hj => match j, hj with
    | 0, _ => exact hu
    | 1, _ => exact hu
    | 2, _ => exact hu
    | 3, _ => exact hu
    | 4, _ => exact hu
  | k + 3, hk, _ => exact absurd hk (by simp [exItems])
theorem exReads {W : World} {b5 b6 b4 b7 : Nat} {f4 f5 f6 f7 : Nat × Nat} (h4 : W.heap[b4]? = some (.cells exCells.toArray 50 f4)) (h5 : W.heap[b5]? = some (.cells #[.int .i64 1, .int .i64 2] 3 f5)) (h6 : W.heap[b6]? = some (.cells #[.slice (some ⟨b5, 0, none⟩) 2 2] 39 f6))
    (h7 : W.heap[b7]? = some (.cells #[.slice (some ⟨b6, 0, none⟩) 1 1, .slice none 0 0, .slice none 0 0] 32 f7)) :
    RItems W (Lt W.heap.size) (.slice (some ⟨b4, 0, none⟩) 3 3) exItems ∧ RIntsss W (Lt W.heap.size) (.slice (some ⟨b7, 0, none⟩) 3 3) exWants := by
  have l4 := (Array.getElem?_eq_some_iff.1 h4).1
  have l5 := (Array.getElem?_eq_some_iff.1 h5).1
  have l6 := (Array.getElem?_eq_some_iff.1 h6).1
  have l7 := (Array.getElem?_eq_some_iff.1 h7).1
  have r5 : RInts W (Lt W.heap.size) (.slice (some ⟨b5, 0, none⟩) 2 2) [1, 2] := by
    refine ⟨_, 2, rfl, Nat.le_refl _, by unfold maxLen; omega, fun _ => ⟨b5, 0, rfl, l5, fun k hk => ?_⟩⟩
    match k, hk with
    | 0, _ => exact ⟨_, (cell_of_row _ _ 0 _ _ _ h5).trans rfl, rfl⟩
    | 1, _ => exact ⟨_, (cell_of_row _ _ 1 _ _ _ h5).trans rfl, rfl⟩
  have r6 : RIntss W (Lt W.heap.size) (.slice (some ⟨b6, 0, none⟩) 1 1) [[1, 2]] := by
    refine ⟨_, 1, rfl, Nat.le_refl _, by unfold maxLen; omega, fun _ => ⟨b6, 0, rfl, l6, fun k hk => ?_⟩⟩
    match k, hk with
    | 0, _ => exact ⟨_, (cell_of_row _ _ 0 _ _ _ h6).trans rfl, r5⟩
  refine ⟨⟨_, 3, rfl, Nat.le_refl _, by unfold maxLen; omega, fun _ => ⟨b4, 0, rfl, l4, fun k hk j u hu => ?_⟩⟩, ⟨_, 3, rfl, Nat.le_refl _, by unfold maxLen; omega, fun _ => ⟨b7, 0, rfl, l7, fun k hk => ?_⟩⟩⟩
  · rw [cell_of_row _ _ _ _ _ _ h4]
    simpa using exCells_at k hk j u hu
  · match k, hk with
    | 0, _ => exact ⟨_, (cell_of_row _ _ 0 _ _ _ h7).trans rfl, r6⟩
    | 1, _ => exact ⟨_, (cell_of_row _ _ 1 _ _ _ h7).trans rfl, RSl.nil_ _ _ _⟩
    | 2, _ => exact ⟨_, (cell_of_row _ _ 2 _ _ _ h7).trans rfl, RSl.nil_ _ _ _⟩
set_option maxRecDepth 100000 in
set_option maxHeartbeats 1000000 in
theorem deal_any (w : World) : Calls Try.prog 20 #[] w (DealPost w) := by
  go_enter Try.func20, Try.ntmps20
  go_wp2
  refine bodyPost_ret (v := .agg #[.slice (some ⟨w.heap.size + 1 + 1 + 1 + 1, 0, none⟩) 3 3, .slice (some ⟨w.heap.size + 1 + 1 + 1 + 1 + 1 + 1 + 1, 0, none⟩) 3 3, .int .i64 0]) (by simp [results, Try.results20, go_sem]) rfl ?_
  refine ⟨_, _, rfl, ?_⟩
  have hB : ∀ (W : World) (o : Obj), Below w.heap.size w W → Below w.heap.size w (W.alloc o) := fun W o h => h.alloc h.size o
  refine and_assoc.1 ⟨exReads (f4 := (0, 0)) (f5 := (0, 0)) (f6 := (0, 0)) (f7 := (0, 0)) (b5 := w.heap.size + 1 + 1 + 1 + 1 + 1) (b6 := w.heap.size + 1 + 1 + 1 + 1 + 1 + 1) ?_ ?_ ?_ ?_, ?_⟩
  · exact heap_at_alloc (heap_at_alloc (heap_at_alloc (heap_new (by simp))))
  · exact heap_at_alloc (heap_at_alloc (heap_new (by simp)))
  · exact heap_at_alloc (heap_new (by simp))
  · exact heap_new (by simp)
  · exact hB _ _ (hB _ _ (hB _ _ (hB _ _ (hB _ _ (hB _ _ (hB _ _ (hB _ _ (Below.refl _ _))))))))
end Go.Proofs.Ytlaihjhkghbfkaa
