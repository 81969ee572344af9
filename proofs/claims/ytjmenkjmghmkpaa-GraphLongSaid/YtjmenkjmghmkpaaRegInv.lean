/- A region that draws its order, walked once under an invariant: each operation is shown once, not once an order. -/
import Derived.Test.YtjmenkjmghmkpaaBase
import Derived.RegionTactic
namespace Go.Proofs.Ytjmenkjmghmkpaa

/-- How many operations are not yet listed. -/
def leftN (L : Array Bool) : Nat := L.toList.countP (!·)
theorem leftN_set {L : Array Bool} {i : Nat} (h : L.getD i true = false) : leftN (L.setIfInBounds i true) + 1 = leftN L := by
  obtain ⟨l⟩ := L
  have hi : i < l.length := by
    refine Nat.lt_of_not_le fun hn => ?_
    simp [Array.getD, Nat.not_lt.2 hn] at h
  have hl : l[i] = false := by simpa [Array.getD, hi] using h
  unfold leftN
  rw [List.setIfInBounds_toArray]
  show List.countP _ (l.set i true) + 1 = List.countP _ l
  rw [List.countP_set hi, hl]
  have : 0 < List.countP (!·) l := List.countP_pos_iff.2 ⟨false, by rw [← hl]; exact List.getElem_mem hi, rfl⟩
  simp
  omega
theorem ready_no {md : Region.Mode} {ops : Array Oper} {L : Array Bool} {i : Nat} (h : i ∈ Region.ready md ops L) : L.getD i true = false := by
  unfold Region.ready at h
  have := (List.mem_filter.1 h).2
  rw [Bool.and_eq_true] at this
  simpa using this.1
theorem wpAny_inv {P : Program} {md : Region.Mode} {ops : Array Oper} {Q : Exit → Act → World → Prop} (J : Array Bool → Act → World → Prop)
    (step : ∀ L a w i, i ∈ Region.ready md ops L → J L a w → wpOp P ops Q i (J (L.setIfInBounds i true)) a w)
    (fin : ∀ L a w, Region.ready md ops L = [] → J L a w → Q .normal a w) :
    ∀ (fuel : Nat) (L : Array Bool) (a : Act) (w : World), leftN L ≤ fuel → J L a w → wpAny P md ops Q fuel L a w := by
  intro fuel
  induction fuel with
  | zero =>
    intro L a w hl hJ
    have hr : Region.ready md ops L = [] := List.eq_nil_iff_forall_not_mem.2 fun i hi => by
      have := leftN_set (ready_no hi)
      omega
    exact ⟨hr, fin L a w hr hJ⟩
  | succ fuel ih =>
    intro L a w hl hJ
    refine ⟨fun hr => fin L a w hr hJ, fun i hi => wpOp_mono (fun a' w' hJ' => ih _ a' w' ?_ hJ') (step L a w i hi hJ)⟩
    have := leftN_set (ready_no hi)
    omega
/-- The region's law: J holds ahead of it, each operation that may come up keeps it, and where none is left it gives what is asked. -/
theorem wp_region_inv {P : Program} {ops : Array Oper} {Q : Exit → Act → World → Prop} {id : Nat} {a : Act} {w : World} (hm : P.follows .mixedOrders = true) (J : Array Bool → Act → World → Prop)
    (h0 : J (Array.replicate ops.size false) a { w with drawn := w.drawn + 1 })
    (step : ∀ L a w i, i ∈ Region.ready .any ops L → J L a w → wpOp P ops Q i (J (L.setIfInBounds i true)) a w)
    (fin : ∀ L a w, Region.ready .any ops L = [] → J L a w → Q .normal a w) : (Code.region id ops true).wp P Q a w :=
  wp_region_any hm (wpAny_inv J step fin _ _ _ _ (by unfold leftN; exact Nat.le_trans List.countP_le_length (by simp)) h0)
/-- The same from the midst of a region on; where J gives the rest by itself (the operations that draw are through) the walk goes on from there. -/
theorem wpAny_inv_to {P : Program} {md : Region.Mode} {ops : Array Oper} {Q : Exit → Act → World → Prop} (J : Array Bool → Act → World → Prop)
    (step : ∀ L a w, J L a w → (∀ i ∈ Region.ready md ops L, wpOp P ops Q i (J (L.setIfInBounds i true)) a w) ∧ Region.ready md ops L ≠ [] ∨ ∀ fuel, leftN L ≤ fuel → wpAny P md ops Q fuel L a w) :
    ∀ (fuel : Nat) (L : Array Bool) (a : Act) (w : World), leftN L ≤ fuel → J L a w → wpAny P md ops Q fuel L a w := by
  intro fuel
  induction fuel with
  | zero =>
    intro L a w hl hJ
    rcases step L a w hJ with ⟨_, hne⟩ | h
    · exact absurd (List.eq_nil_iff_forall_not_mem.2 fun i hi => by have := leftN_set (ready_no hi); omega) hne
    · exact h 0 hl
  | succ fuel ih =>
    intro L a w hl hJ
    rcases step L a w hJ with ⟨h, hne⟩ | h
    · refine ⟨fun hr => absurd hr hne, fun i hi => wpOp_mono (fun a' w' hJ' => ih _ a' w' ?_ hJ') (h i hi)⟩
      have := leftN_set (ready_no hi)
      omega
    · exact h _ hl
end Go.Proofs.Ytjmenkjmghmkpaa
