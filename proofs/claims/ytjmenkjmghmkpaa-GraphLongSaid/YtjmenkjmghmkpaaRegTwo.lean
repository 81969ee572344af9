/- Two appends in one region, each to its own row: what stands behind any part of them. -/
import Derived.Test.YtjmenkjmghmkpaaGrF0
import Derived.Test.YtjmenkjmghmkpaaRegFresh
namespace Go.Proofs.Ytjmenkjmghmkpaa
open Go.RowKit
open G22

/-- The row, with n behind it once the append is through. -/
def ext (q : Bool) (l : List Nat) (n : Nat) : List Nat := if q then l ++ [n] else l
structure TwoAt (w0 : World) (base : Nat) (e : TypeId) (va vb : Value) (la lb : List Nat) (n : Nat) (p1 q1 p2 q2 : Bool) (c1 c2 : Nat) (va' vb' : Value) (w : World) : Prop where
  size : w0.heap.size ≤ w.heap.size
  env : w.os = w0.os ∧ w.tape = w0.tape ∧ w.output = w0.output
  keep : ∀ b, b < w0.heap.size → some b ≠ va.ownBlock → some b ≠ vb.ownBlock → w.heap[b]? = w0.heap[b]?
  oa : w.ownsRow base e 1 va' (ext q1 la n).length (nVs (ext q1 la n))
  ob : w.ownsRow base e 1 vb' (ext q2 lb n).length (nVs (ext q2 lb n))
  ea : q1 = false → va' = va
  eb : q2 = false → vb' = vb
  far : va'.ownBlock = none ∨ va'.ownBlock ≠ vb'.ownBlock
  aa : va'.ownBlock = va.ownBlock ∨ ∀ g, va'.ownBlock = some g → w0.heap.size ≤ g
  ab : vb'.ownBlock = vb.ownBlock ∨ ∀ g, vb'.ownBlock = some g → w0.heap.size ≤ g
  n1 : p1 = true → w.cell? ⟨c1, 0, none⟩ = some (natV n) ∧ c1 < w.heap.size ∧ w0.heap.size ≤ c1 ∧ some c1 ≠ va'.ownBlock ∧ some c1 ≠ vb'.ownBlock
  n2 : p2 = true → w.cell? ⟨c2, 0, none⟩ = some (natV n) ∧ c2 < w.heap.size ∧ w0.heap.size ≤ c2 ∧ some c2 ≠ va'.ownBlock ∧ some c2 ≠ vb'.ownBlock
theorem far_swap {a b : Option Nat} (h : a = none ∨ a ≠ b) : b = none ∨ b ≠ a := by
  rcases h with h | h
  · cases b with
    | none => exact .inl rfl
    | some b => exact .inr (by rw [h]; simp)
  · exact .inr fun e => h e.symm
section
variable {w0 w w' : World} {base n c1 c2 : Nat} {e : TypeId} {va vb va' vb' : Value} {la lb : List Nat} {p1 q1 p2 q2 : Bool}
theorem TwoAt.swap (h : TwoAt w0 base e va vb la lb n p1 q1 p2 q2 c1 c2 va' vb' w) : TwoAt w0 base e vb va lb la n p2 q2 p1 q1 c2 c1 vb' va' w :=
  ⟨h.size, h.env, fun b hb h1 h2 => h.keep b hb h2 h1, h.ob, h.oa, h.eb, h.ea, far_swap h.far, h.ab, h.aa, fun hp => by obtain ⟨a, b, c, d, f⟩ := h.n2 hp; exact ⟨a, b, c, f, d⟩, fun hp => by obtain ⟨a, b, c, d, f⟩ := h.n1 hp; exact ⟨a, b, c, f, d⟩⟩
theorem TwoAt.box (h : TwoAt w0 base e va vb la lb n p1 q1 p2 q2 c1 c2 va' vb' w) (t : TypeId) : TwoAt w0 base e va vb la lb n true q1 p2 q2 w.heap.size c2 va' vb' (w.alloc (.cells #[natV n] t)) := by
  have hk : ∀ b, b < w.heap.size → (w.alloc (.cells #[natV n] t)).heap[b]? = w.heap[b]? := fun b hb => by show (w.heap.push _)[b]? = _; rw [Array.getElem?_push, if_neg (by omega)]
  have hs : (w.alloc (.cells #[natV n] t)).heap.size = w.heap.size + 1 := by simp
  refine ⟨by rw [hs]; exact Nat.le_succ_of_le h.size, h.env, fun b hb h1 h2 => (hk b (Nat.lt_of_lt_of_le hb h.size)).trans (h.keep b hb h1 h2), own_ag h.oa fun g hg => hk g (h.oa.lt g hg).2, own_ag h.ob fun g hg => hk g (h.ob.lt g hg).2, h.ea, h.eb, h.far, h.aa, h.ab, fun _ => ⟨by simp [go_sem], by rw [hs]; omega, h.size, fun e => by have := (h.oa.lt _ e.symm).2; omega, fun e => by have := (h.ob.lt _ e.symm).2; omega⟩, fun hp => ?_⟩
  obtain ⟨a, b, c, d, f⟩ := h.n2 hp
  exact ⟨(World.cell?_of_block (a := ⟨c2, 0, none⟩) (hk c2 b)).trans a, by rw [hs]; omega, c, d, f⟩
theorem TwoAt.app {va2 : Value} (h : TwoAt w0 base e va vb la lb n p1 false p2 q2 c1 c2 va' vb' w)
    (hg : w.grownBy w' va'.ownBlock) (ho : w'.ownsRow base e 1 va2 (la.length + 1) (nVs la ++ [natV n])) (ha : va2.ownBlock = va'.ownBlock ∨ va2.ownBlock = some w.heap.size) :
    TwoAt w0 base e va vb la lb n p1 true p2 q2 c1 c2 va2 vb' w' := by
  have hvb : ∀ g, vb'.ownBlock = some g → some g ≠ va'.ownBlock := fun g hg' e => by
    rcases h.far with f | f
    · rw [f] at e; cases e
    · rw [← e, hg'] at f; exact f rfl
  have hn : ∀ c, (w.cell? ⟨c, 0, none⟩ = some (natV n) ∧ c < w.heap.size ∧ w0.heap.size ≤ c ∧ some c ≠ va'.ownBlock ∧ some c ≠ vb'.ownBlock) → (w'.cell? ⟨c, 0, none⟩ = some (natV n) ∧ c < w'.heap.size ∧ w0.heap.size ≤ c ∧ some c ≠ va2.ownBlock ∧ some c ≠ vb'.ownBlock) := fun c ⟨a, b, c', d, f⟩ =>
    ⟨(World.cell?_of_block (a := ⟨c, 0, none⟩) (hg.block c b d)).trans a, Nat.lt_of_lt_of_le b hg.size, c', fun e => by
      rcases ha with ha | ha
      · rw [ha] at e; exact d e
      · rw [ha] at e; cases e; exact absurd b (Nat.lt_irrefl _), f⟩
  refine ⟨Nat.le_trans h.size hg.size, ⟨hg.os.trans h.env.1, hg.tape.trans h.env.2.1, hg.output.trans h.env.2.2⟩, fun b hb h1 h2 => (hg.block b (Nat.lt_of_lt_of_le hb h.size) fun e => ?_).trans (h.keep b hb h1 h2), ?_, own_ag h.ob fun g hg' => hg.block g (h.ob.lt g hg').2 (hvb g hg'), (fun hf => by cases hf), h.eb, ?_, ?_, h.ab, fun hp => hn _ (h.n1 hp), fun hp => hn _ (h.n2 hp)⟩
  · rcases h.aa with a | a
    · exact h1 (e.trans a)
    · have := a b e.symm; omega
  · simpa [ext, nVs] using ho
  · cases hv : va2.ownBlock with
    | none => exact .inl rfl
    | some g =>
      refine .inr fun e => ?_
      rcases ha with ha | ha
      · exact hvb g e.symm (hv.symm.trans ha)
      · rw [hv] at ha; cases ha
        have := (h.ob.lt _ e.symm).2
        omega
  · rcases ha with ha | ha
    · rcases h.aa with a | a
      · exact .inl (ha.trans a)
      · exact .inr fun g hg' => a g (ha.symm.trans hg')
    · exact .inr fun g hg' => by rw [ha] at hg'; cases hg'; exact h.size
end
end Go.Proofs.Ytjmenkjmghmkpaa
