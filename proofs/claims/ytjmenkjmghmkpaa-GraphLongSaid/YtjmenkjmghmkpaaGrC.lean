/- Graphs: the first round about. Plain. -/
import Derived.Test.YtjmenkjmghmkpaaGrP
namespace Go.Proofs.Ytjmenkjmghmkpaa
namespace G22

open Classical in
noncomputable def depthOf (G : Gr) (n : Nat) : List Int := if h : ∃ d, IsDepth G n d then Classical.choose h else []
theorem depthOf_eq {G : Gr} {n : Nat} {d : List Int} (h : IsDepth G n d) : d = depthOf G n := by
  have hx : ∃ d, IsDepth G n d := ⟨d, h⟩
  unfold depthOf
  rw [dif_pos hx]
  exact h.unique (Classical.choose_spec hx)
/-- k in the place of the best so far, where it is better -/
def stepB (d : List Int) (b : Int) (k : Nat) : Int := if 0 ≤ dd d k ∧ (b < 0 ∨ dd d k < dd d b.toNat) then (k : Int) else b
def bestL (d : List Int) (l : List Nat) : Int := l.foldl (stepB d) (-1)
theorem bestL_snoc (d : List Int) (l : List Nat) (k : Nat) : bestL d (l ++ [k]) = stepB d (bestL d l) k := by simp [bestL]
/-- the best of those of the first K nodes that lead to n -/
def bestTo (G : Gr) (d : List Int) (n : Nat) : Nat → Int
  | 0 => -1
  | K + 1 => if leads G K n = true then stepB d (bestTo G d n K) K else bestTo G d n K
theorem stepB_twice (d : List Int) (b : Int) (k : Nat) : stepB d (stepB d b k) k = stepB d b k := by
  by_cases h : 0 ≤ dd d k ∧ (b < 0 ∨ dd d k < dd d b.toNat)
  · have e : stepB d b k = (k : Int) := by unfold stepB; rw [if_pos h]
    rw [e]
    unfold stepB
    split <;> rfl
  · have e : stepB d b k = b := by unfold stepB; rw [if_neg h]
    rw [e, e]
theorem stepB_many (d : List Int) (b : Int) (k : Nat) : ∀ m, (List.replicate (m + 1) k).foldl (stepB d) b = stepB d b k
  | 0 => rfl
  | m + 1 => by
    rw [List.replicate_succ, List.foldl_cons, stepB_many d _ k m, stepB_twice]
theorem bestL_turn (G : Gr) (d : List Int) (n : Nat) : ∀ K, bestL d (turnTo G K n) = bestTo G d n K
  | 0 => rfl
  | K + 1 => by
    rw [turnTo_succ]
    unfold bestL
    rw [List.foldl_append]
    have ih := bestL_turn G d n K
    unfold bestL at ih
    rw [ih]
    show _ = if leads G K n = true then stepB d (bestTo G d n K) K else bestTo G d n K
    by_cases h : leads G K n = true
    · rw [if_pos h]
      have hc : 0 < (row G K).count n := List.count_pos_iff.2 (leads_iff.1 h)
      obtain ⟨m, hm⟩ : ∃ m, (row G K).count n = m + 1 := ⟨(row G K).count n - 1, by omega⟩
      rw [hm, stepB_many]
    · rw [if_neg h]
      have hc : (row G K).count n = 0 := by
        rcases Nat.eq_zero_or_pos ((row G K).count n) with h1 | h1
        · exact h1
        · exact absurd (leads_iff.2 (List.count_pos_iff.1 h1)) h
      rw [hc]; rfl
theorem stepB_lt {d : List Int} {b : Int} {k K : Nat} (hb : b < (K : Int)) (hk : k < K) : stepB d b k < (K : Int) := by
  unfold stepB; split <;> omega
theorem stepB_ge {d : List Int} {b : Int} {k : Nat} (hb : -1 ≤ b) : -1 ≤ stepB d b k := by unfold stepB; split <;> omega
theorem bestTo_ge (G : Gr) (d : List Int) (n : Nat) : ∀ K, -1 ≤ bestTo G d n K ∧ bestTo G d n K < (K : Int)
  | 0 => by simp [bestTo]
  | K + 1 => by
    have ih := bestTo_ge G d n K
    unfold bestTo
    split
    · exact ⟨stepB_ge ih.1, stepB_lt (by omega) (by omega)⟩
    · omega
/-- Is there one? -/
theorem bestTo_iff {G : Gr} {d : List Int} {n : Nat} : ∀ {K}, 0 ≤ bestTo G d n K ↔ ∃ k, k < K ∧ Edge G k n ∧ 0 ≤ dd d k
  | 0 => by simp [bestTo]
  | K + 1 => by
    have ih := @bestTo_iff G d n K
    have hge := (bestTo_ge G d n K).1
    unfold bestTo
    constructor
    · intro h
      split at h
      · next hl =>
        unfold stepB at h
        split at h
        · next hc => exact ⟨K, by omega, leads_iff.1 hl, hc.1⟩
        · obtain ⟨k, h1, h2⟩ := ih.1 h; exact ⟨k, by omega, h2⟩
      · obtain ⟨k, h1, h2⟩ := ih.1 h; exact ⟨k, by omega, h2⟩
    · rintro ⟨k, h1, h2, h3⟩
      rcases Nat.lt_or_ge k K with h4 | h4
      · have h5 := ih.2 ⟨k, h4, h2, h3⟩
        split
        · unfold stepB; split <;> omega
        · exact h5
      · obtain rfl : k = K := by omega
        rw [if_pos (leads_iff.2 h2)]
        unfold stepB
        by_cases h6 : bestTo G d n k < 0
        · rw [if_pos ⟨h3, .inl h6⟩]; omega
        · split <;> omega
/-- what bestTo finds leads to n, and can be come to. -/
theorem bestTo_spec {G : Gr} {d : List Int} {n : Nat} : ∀ {K}, 0 ≤ bestTo G d n K → Edge G (bestTo G d n K).toNat n ∧ 0 ≤ dd d (bestTo G d n K).toNat ∧ ∀ k, k < K → Edge G k n → 0 ≤ dd d k → dd d (bestTo G d n K).toNat ≤ dd d k
  | 0, h => by simp [bestTo] at h
  | K + 1, h => by
    have ih := @bestTo_spec G d n K
    have hge := (bestTo_ge G d n K).1
    unfold bestTo at h ⊢
    by_cases hl : leads G K n = true
    · rw [if_pos hl] at h ⊢
      unfold stepB at h ⊢
      by_cases hc : 0 ≤ dd d K ∧ (bestTo G d n K < 0 ∨ dd d K < dd d (bestTo G d n K).toNat)
      · rw [if_pos hc] at h ⊢
        rw [Int.toNat_natCast]
        refine ⟨leads_iff.1 hl, hc.1, fun k hk he h0 => ?_⟩
        rcases Nat.lt_or_ge k K with h4 | h4
        · rcases hc.2 with h5 | h5
          · have := bestTo_iff.2 ⟨k, h4, he, h0⟩; omega
          · rcases Int.lt_or_le (bestTo G d n K) 0 with h6 | h6
            · have := bestTo_iff.2 ⟨k, h4, he, h0⟩; omega
            · have := (ih h6).2.2 k h4 he h0; omega
        · obtain rfl : k = K := by omega
          exact Int.le_refl _
      · rw [if_neg hc] at h ⊢
        obtain ⟨g1, g2, g3⟩ := ih h
        refine ⟨g1, g2, fun k hk he h0 => ?_⟩
        rcases Nat.lt_or_ge k K with h4 | h4
        · exact g3 k h4 he h0
        · obtain rfl : k = K := by omega
          rcases Int.lt_or_le (dd d k) (dd d (bestTo G d n k).toNat) with h6 | h6
          · exact absurd ⟨h0, .inr h6⟩ hc
          · exact h6
    · rw [if_neg hl] at h ⊢
      obtain ⟨g1, g2, g3⟩ := ih h
      refine ⟨g1, g2, fun k hk he h0 => ?_⟩
      rcases Nat.lt_or_ge k K with h4 | h4
      · exact g3 k h4 he h0
      · obtain rfl : k = K := by omega
        exact absurd (leads_iff.2 he) hl
noncomputable def bestOf (G : Gr) (n : Nat) : Int := bestTo G (depthOf G n) n G.length
def pathR (G : Gr) (d : List Int) (b : Nat) : List Nat := if 0 ≤ dd d b then pathL G d b else []
/-- the first n, from which one comes back to it, and the way -/
noncomputable def cycG (G : Gr) : List Nat := match (List.range G.length).find? fun n => decide (0 ≤ bestOf G n) with | some n => pathR G (depthOf G n) (bestOf G n).toNat | none => []
theorem cycG_hit {G : Gr} {n : Nat} (hn : n < G.length) (h : 0 ≤ bestOf G n) (hm : ∀ m, m < n → bestOf G m < 0) : cycG G = pathR G (depthOf G n) (bestOf G n).toNat := by
  have : (List.range G.length).find? (fun n => decide (0 ≤ bestOf G n)) = some n := by
    rw [List.find?_range_eq_some]
    exact ⟨by simpa using h, by simpa using hn, fun j hj => by have := hm j hj; simp; omega⟩
  unfold cycG
  rw [this]
theorem cycG_none {G : Gr} (hm : ∀ m, m < G.length → bestOf G m < 0) : cycG G = [] := by
  have : (List.range G.length).find? (fun n => decide (0 ≤ bestOf G n)) = none := by
    rw [List.find?_eq_none]
    intro j hj
    have := hm j (by simpa using hj)
    simp; omega
  unfold cycG
  rw [this]
end G22
end Go.Proofs.Ytjmenkjmghmkpaa
