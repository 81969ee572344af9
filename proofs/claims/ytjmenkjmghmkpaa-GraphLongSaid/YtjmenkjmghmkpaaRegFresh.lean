/- Several allocations in a region, in whatever order: walked once, not once an order. -/
import Derived.Test.YtjmenkjmghmkpaaRegInv
namespace Go.Proofs.Ytjmenkjmghmkpaa

/-- What stands behind the allocations named in m. -/
structure Fresh (I : List Nat) (o : Nat → Obj) (w0 : World) (m : Nat → Bool) (blk : Nat → Nat) (w : World) : Prop where
  size : w0.heap.size ≤ w.heap.size
  keep : ∀ b, b < w0.heap.size → w.heap[b]? = w0.heap[b]?
  env : w.os = w0.os ∧ w.tape = w0.tape ∧ w.output = w0.output
  at_ : ∀ i ∈ I, m i = true → w0.heap.size ≤ blk i ∧ blk i < w.heap.size ∧ w.heap[blk i]? = some (o i)
  ne : ∀ i ∈ I, ∀ j ∈ I, m i = true → m j = true → i ≠ j → blk i ≠ blk j
def upd {α : Type} (f : Nat → α) (i : Nat) (x : α) : Nat → α := fun j => if j = i then x else f j
theorem Fresh.add {I : List Nat} {o : Nat → Obj} {w0 w : World} {m : Nat → Bool} {blk : Nat → Nat} (h : Fresh I o w0 m blk w) {i : Nat} (hi : m i = false) :
    Fresh I o w0 (upd m i true) (upd blk i w.heap.size) (w.alloc (o i)) := by
  have hs : (w.alloc (o i)).heap.size = w.heap.size + 1 := by simp
  have hk : ∀ b, b < w.heap.size → (w.alloc (o i)).heap[b]? = w.heap[b]? := fun b hb => by show (w.heap.push (o i))[b]? = _; rw [Array.getElem?_push, if_neg (by omega)]
  have hn : (w.alloc (o i)).heap[w.heap.size]? = some (o i) := by show (w.heap.push (o i))[w.heap.size]? = _; rw [Array.getElem?_push, if_pos rfl]
  refine ⟨by rw [hs]; exact Nat.le_succ_of_le h.size, fun b hb => (hk b (Nat.lt_of_lt_of_le hb h.size)).trans (h.keep b hb), h.env, fun j hj hm => ?_, fun j hj k hk' hm hm' hne => ?_⟩
  · by_cases e : j = i
    · subst e
      simp only [upd, if_true]
      exact ⟨h.size, by rw [hs]; omega, hn⟩
    · simp only [upd, if_neg e] at hm ⊢
      obtain ⟨h1, h2, h3⟩ := h.at_ j hj hm
      exact ⟨h1, by rw [hs]; omega, (hk _ h2).trans h3⟩
  · simp only [upd] at hm hm' ⊢
    by_cases e : j = i
    · rw [if_pos e]
      have ek : k ≠ i := fun e' => hne (e.trans e'.symm)
      rw [if_neg ek] at hm' ⊢
      have := (h.at_ k hk' hm').2.1
      omega
    · rw [if_neg e] at hm ⊢
      have h1 := (h.at_ j hj hm).2.1
      by_cases ek : k = i
      · rw [if_pos ek]; omega
      · rw [if_neg ek] at hm' ⊢
        exact h.ne j hj k hk' hm hm' hne
/-- The law. lOf: what is listed, by which of the allocations are; aOf: the frame, by what they have yielded. -/
theorem wpAny_fresh {P : Program} {md : Region.Mode} {ops : Array Oper} {Q : Exit → Act → World → Prop} (I : List Nat) (lOf : (Nat → Bool) → Array Bool) (aOf : (Nat → Value) → Act) (v : Nat → Nat → Value) (o : Nat → Obj)
    (f0 : Nat → Value) (w0 : World) (fuel : Nat)
    (hr : ∀ m, (∃ i ∈ I, m i = false) → Region.ready md ops (lOf m) = I.filter fun i => !m i)
    (hl : ∀ m i, i ∈ I → (lOf m).setIfInBounds i true = lOf (upd m i true))
    (hle : ∀ m, (∀ i ∈ I, m i = true) → lOf m = lOf fun _ => true)
    (hae : ∀ f g, (∀ i ∈ I, f i = g i) → aOf f = aOf g)
    (hop : ∀ f i, i ∈ I → ∀ W K, K (aOf (upd f i (v i W.heap.size))) (W.alloc (o i)) → wpOp P ops Q i K (aOf f) W)
    (hfu : leftN (lOf fun _ => false) ≤ fuel)
    (rest : ∀ blk w fuel', leftN (lOf fun _ => true) ≤ fuel' → Fresh I o w0 (fun _ => true) blk w → wpAny P md ops Q fuel' (lOf fun _ => true) (aOf fun i => v i (blk i)) w) :
    wpAny P md ops Q fuel (lOf fun _ => false) (aOf f0) w0 := by
  refine wpAny_inv_to (fun L a w => ∃ m blk, L = lOf m ∧ a = aOf (fun i => if m i then v i (blk i) else f0 i) ∧ Fresh I o w0 m blk w) ?_ fuel _ _ _ hfu
    ⟨fun _ => false, fun _ => 0, rfl, hae _ _ fun i _ => by simp, Nat.le_refl _, fun _ _ => rfl, ⟨rfl, rfl, rfl⟩, fun i _ h => by simp at h, fun i _ j _ h => by simp at h⟩
  rintro L a w ⟨m, blk, rfl, rfl, hf⟩
  by_cases hm : ∃ i ∈ I, m i = false
  · refine .inl ⟨fun i hi => ?_, ?_⟩
    · rw [hr m hm] at hi
      obtain ⟨hI, hi0⟩ := List.mem_filter.1 hi
      have hi0 : m i = false := by simpa using hi0
      refine hop _ i hI w _ ⟨upd m i true, upd blk i w.heap.size, hl m i hI, hae _ _ fun j _ => ?_, hf.add hi0⟩
      by_cases e : j = i
      · subst e; simp [upd]
      · simp [upd, e]
    · rw [hr m hm]
      obtain ⟨i, hi, h0⟩ := hm
      exact fun e => by
        have : i ∈ I.filter fun i => !m i := List.mem_filter.2 ⟨hi, by simp [h0]⟩
        rw [e] at this; cases this
  · have hm1 : ∀ i ∈ I, m i = true := fun i hi => by
      cases e : m i with
      | true => rfl
      | false => exact absurd ⟨i, hi, e⟩ hm
    refine .inr fun fu hfu' => ?_
    rw [hle m hm1] at hfu' ⊢
    rw [hae _ (fun i => v i (blk i)) fun i hi => by simp [hm1 i hi]]
    exact rest blk w fu hfu' ⟨hf.size, hf.keep, hf.env, fun i hi _ => hf.at_ i hi (hm1 i hi), fun i hi j hj _ _ hne => hf.ne i hi j hj (hm1 i hi) (hm1 j hj) hne⟩
end Go.Proofs.Ytjmenkjmghmkpaa
