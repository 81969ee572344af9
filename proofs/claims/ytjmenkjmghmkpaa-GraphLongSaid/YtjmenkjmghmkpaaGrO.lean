/- Graphs: an order of nodes; the groups cover all; rounds about. Plain. -/
import Derived.Test.YtjmenkjmghmkpaaGrS3
import Derived.Test.YtjmenkjmghmkpaaGrC
namespace Go.Proofs.Ytjmenkjmghmkpaa
namespace G22

def hd (l : List Nat) : Nat := gN l 0
theorem hd_mem {l : List Nat} (h : 0 < l.length) : hd l ∈ l := by
  unfold hd gN
  rw [show l.getD 0 0 = l[0] by simp [List.getD, h]]
  exact List.getElem_mem h
theorem IsScc.self {G : Gr} {n : Nat} {l : List Nat} (h : IsScc G n l) (hn : n < G.length) : n ∈ l := (h.2 n).2 ⟨hn, .refl _ _, .refl _ _⟩
theorem Picks.heads {G : Gr} : ∀ {ls : List (List Nat)} {D : Nat → Prop}, Picks G D ls → (∀ a b, Mut G a b → D a → D b) → (ls.map hd).Nodup ∧ ∀ l ∈ ls, 0 < l.length ∧ hd l < G.length ∧ ¬ D (hd l) ∧ IsScc G (hd l) l
  | [], _, _, _ => ⟨List.nodup_nil, fun l hl => by cases hl⟩
  | l :: ls, D, ⟨n, hn, hl, hp⟩, hD => by
    have hD' : ∀ a b, Mut G a b → (D a ∨ a ∈ l) → (D b ∨ b ∈ l) := fun a b hm h => by
      rcases h with h | h
      · exact .inl (hD a b hm h)
      · have := (hl.2 a).1 h
        by_cases hb : b < G.length
        · exact .inr ((hl.2 b).2 ⟨hb, hm.2.trans this.2.1, this.2.2.trans hm.1⟩)
        · have h0 := hm.1.cases
          rcases h0 with rfl | ⟨c, hc, hr⟩
          · exact absurd this.1 hb
          · have : b < G.length := by
              rcases hm.2.cases with e | ⟨c', hc', _⟩
              · exact absurd (e ▸ this.1) hb
              · exact hc'.lt
            exact absurd this hb
    obtain ⟨h1, h2⟩ := Picks.heads hp hD'
    have hnl := hl.self hn.1
    have hp0 : 0 < l.length := List.length_pos_of_mem hnl
    have hh := (hl.2 (hd l)).1 (hd_mem hp0)
    have hnd : ¬ D (hd l) := fun h => hn.2.1.1 (hD _ _ hh.2 h)
    have hsc : IsScc G (hd l) l := ⟨hl.1, fun k => (hl.2 k).trans ⟨fun ⟨a, b⟩ => ⟨a, b.1.trans hh.2.2, hh.2.1.trans b.2⟩, fun ⟨a, b⟩ => ⟨a, b.1.trans hh.2.1, hh.2.2.trans b.2⟩⟩⟩
    refine ⟨List.nodup_cons.2 ⟨fun hm => ?_, h1⟩, fun m hm => ?_⟩
    · obtain ⟨m, hm, e⟩ := List.mem_map.1 hm
      exact (h2 m hm).2.2.1 (.inr (e ▸ hd_mem hp0))
    · rcases List.mem_cons.1 hm with rfl | hm
      · exact ⟨hp0, hh.1, hnd, hsc⟩
      · obtain ⟨a, b, c, d⟩ := h2 m hm
        exact ⟨a, b, fun h => c (.inl h), d⟩
theorem Picks.top {G : Gr} {ls : List (List Nat)} (h : Picks G (fun _ => False) ls) : (ls.map hd).Nodup ∧ ∀ l ∈ ls, 0 < l.length ∧ hd l < G.length ∧ IsScc G (hd l) l := by
  obtain ⟨h1, h2⟩ := h.heads fun _ _ _ h => h
  exact ⟨h1, fun l hl => ⟨(h2 l hl).1, (h2 l hl).2.1, (h2 l hl).2.2.2⟩⟩
theorem Picks.length_le {G : Gr} {ls : List (List Nat)} (h : Picks G (fun _ => False) ls) : ls.length ≤ G.length := by
  obtain ⟨h1, h2⟩ := h.top
  have := nodup_le h1 (n := G.length) fun x hx => by
    obtain ⟨l, hl, rfl⟩ := List.mem_map.1 hx
    exact (h2 l hl).2.1
  simpa using this
/-- Where a node isn't done there is a free one. -/
theorem free_exists {G : Gr} {D : Nat → Prop} {n : Nat} (hn : n < G.length) (hd : ¬ D n) : ∃ m, m < G.length ∧ Free G D m := by
  classical
  have key : ∀ c n, n < G.length → ¬ D n → ((List.range G.length).filter fun k => decide (¬ D k ∧ Reach G k n)).length = c → ∃ m, m < G.length ∧ Free G D m := by
    intro c
    induction c using Nat.strongRecOn with
    | _ c ih =>
      intro n hn hd hc
      by_cases hf : Free G D n
      · exact ⟨n, hn, hf⟩
      · have : ∃ k, k < G.length ∧ Reach G k n ∧ ¬ D k ∧ ¬ Reach G n k := by
          refine Classical.byContradiction fun hx => hf ⟨hd, fun k hk hr => ?_⟩
          refine Classical.byContradiction fun h2 => hx ⟨k, hk, hr, fun h => h2 (.inl h), fun h => h2 (.inr h)⟩
        obtain ⟨k, hk, hr, hdk, hnr⟩ := this
        refine ih _ ?_ k hk hdk rfl
        rw [← hc]
        have hsub : ((List.range G.length).filter fun x => decide (¬ D x ∧ Reach G x k)).Sublist ((List.range G.length).filter fun x => decide (¬ D x ∧ Reach G x n)) := by
          have e : ((List.range G.length).filter fun x => decide (¬ D x ∧ Reach G x k)) = ((List.range G.length).filter fun x => decide (¬ D x ∧ Reach G x n)).filter fun x => decide (¬ D x ∧ Reach G x k) := by
            rw [List.filter_filter]
            refine List.filter_congr fun x _ => ?_
            by_cases h1 : ¬ D x ∧ Reach G x k
            · have h2 : ¬ D x ∧ Reach G x n := ⟨h1.1, h1.2.trans hr⟩
              rw [decide_eq_true h1, decide_eq_true h2]; rfl
            · rw [decide_eq_false h1]; rfl
          rw [e]
          exact List.filter_sublist
        refine Nat.lt_of_le_of_ne hsub.length_le fun e => ?_
        have he := hsub.eq_of_length e
        have : n ∈ (List.range G.length).filter fun x => decide (¬ D x ∧ Reach G x n) := List.mem_filter.2 ⟨by simpa using hn, by simp only [decide_eq_true_eq]; exact ⟨hd, .refl _ _⟩⟩
        rw [← he] at this
        have := (List.mem_filter.1 this).2
        simp only [decide_eq_true_eq] at this
        exact hnr this.2
  exact key _ n hn hd rfl
theorem Picks.cover {G : Gr} : ∀ {ls : List (List Nat)} {D : Nat → Prop}, Picks G D ls → ∀ n, n < G.length → D n ∨ ∃ l ∈ ls, n ∈ l
  | [], D, h, n, hn => by
    by_cases hd : D n
    · exact .inl hd
    · obtain ⟨m, hm, hf⟩ := free_exists hn hd
      exact absurd hf (h m hm)
  | l :: ls, D, ⟨x, hx, hl, hp⟩, n, hn => by
    rcases Picks.cover hp n hn with (h | h) | ⟨m, hm, h⟩
    · exact .inl h
    · exact .inr ⟨l, by simp, h⟩
    · exact .inr ⟨m, by simp [hm], h⟩
/-- a group of one node that doesn't lead to itself -/
def okB (G : Gr) (l : List Nat) : Bool := decide (l.length ≤ 1) && !leads G (hd l) (hd l)
/-- a node from which one comes back to it -/
def Round (G : Gr) (n : Nat) : Prop := ∃ k, Edge G k n ∧ Reach G n k
theorem round_iff {G : Gr} (hG : okG G) {ls : List (List Nat)} (h : Picks G (fun _ => False) ls) : ls.all (okB G) = true ↔ ∀ n, ¬ Round G n := by
  obtain ⟨_, h2⟩ := h.top
  rw [List.all_eq_true]
  constructor
  · rintro ha n ⟨k, he, hr⟩
    have hk := he.lt
    have hn := hG _ _ he
    rcases h.cover n hn with h3 | ⟨l, hl, hnl⟩
    · exact h3
    · obtain ⟨hp, _, hsc⟩ := h2 l hl
      have hkl : k ∈ l := (hsc.2 k).2 ⟨hk, he.reach.trans ((hsc.2 n).1 hnl).2.1, ((hsc.2 n).1 hnl).2.2.trans hr⟩
      have hb := ha l hl
      unfold okB at hb
      simp only [Bool.and_eq_true, decide_eq_true_eq, Bool.not_eq_true'] at hb
      obtain ⟨x, rfl⟩ : ∃ x, l = [x] := by
        match l, hp, hb.1 with
        | [x], _, _ => exact ⟨x, rfl⟩
      simp at hnl hkl
      subst hnl hkl
      have := leads_iff.2 he
      simp [hd, gN] at hb
      rw [hb] at this; cases this
  · intro hn l hl
    obtain ⟨hp, hlt, hsc⟩ := h2 l hl
    unfold okB
    simp only [Bool.and_eq_true, decide_eq_true_eq, Bool.not_eq_true']
    have hself : ∀ x, x ∈ l → x ≠ hd l → False := fun x hx hne => by
      obtain ⟨_, r1, r2⟩ := (hsc.2 x).1 hx
      -- from x to the head, and back: the last step to x
      have : ∀ a b, Reach G a b → a ≠ b → ∃ c, Reach G a c ∧ Edge G c b := by
        rintro a b ⟨j, hj⟩ hab
        cases j with
        | zero => exact absurd hj hab
        | succ j => obtain ⟨c, hc, he⟩ := hj; exact ⟨c, ⟨j, hc⟩, he⟩
      obtain ⟨c, hc, he⟩ := this _ _ r2 (fun e => hne e.symm)
      exact hn x ⟨c, he, r1.trans hc⟩
    refine ⟨?_, ?_⟩
    · refine Nat.le_of_not_lt fun h3 => ?_
      have hs := List.pairwise_iff_getElem.1 hsc.1 0 1 (by omega) h3 (by omega)
      have e0 : hd l = l[0] := by simp [hd, gN, List.getD, hp]
      exact hself l[1] (List.getElem_mem h3) (by rw [e0]; omega)
    · cases hx : leads G (hd l) (hd l) with
      | false => rfl
      | true => exact absurd ⟨hd l, leads_iff.1 hx, .refl _ _⟩ (hn (hd l))
theorem bestOf_iff {G : Gr} {n : Nat} {d : List Int} (h : IsDepth G n d) : 0 ≤ bestOf G n ↔ Round G n := by
  unfold bestOf
  rw [← depthOf_eq h, bestTo_iff]
  constructor
  · rintro ⟨k, hk, he, h0⟩
    exact ⟨k, he, (h.reach_iff hk).1 h0⟩
  · rintro ⟨k, he, hr⟩
    exact ⟨k, he.lt, he, (h.reach_iff he.lt).2 hr⟩
theorem depth_exists (G : Gr) (a : Nat) : ∃ d, IsDepth G a d := by
  classical
  refine ⟨(List.range G.length).map fun b => if h : Reach G a b then ((Classical.choose (exists_least h) : Nat) : Int) else -1, by simp, fun b hb => ?_⟩
  have e : ((List.range G.length).map fun b => if h : Reach G a b then ((Classical.choose (exists_least h) : Nat) : Int) else -1).getD b (-1) = if h : Reach G a b then ((Classical.choose (exists_least h) : Nat) : Int) else -1 := by simp [List.getD, hb]
  rw [e]
  by_cases h : Reach G a b
  · rw [dif_pos h]
    exact .inr ⟨_, rfl, Classical.choose_spec (exists_least h)⟩
  · rw [dif_neg h]
    exact .inl ⟨rfl, h⟩
theorem bestOf_round (G : Gr) (n : Nat) : 0 ≤ bestOf G n ↔ Round G n := by
  obtain ⟨d, hd⟩ := depth_exists G n
  exact bestOf_iff hd
theorem cycG_nil {G : Gr} (hG : okG G) : cycG G = [] ↔ ∀ n, ¬ Round G n := by
  constructor
  · intro h n hr
    have hnl : n < G.length := by obtain ⟨k, he, _⟩ := hr; exact hG _ _ he
    -- the first such
    have : ∃ m, m < G.length ∧ 0 ≤ bestOf G m ∧ ∀ j, j < m → bestOf G j < 0 := by
      have key : ∀ c, c < G.length → 0 ≤ bestOf G c → ∃ m, m < G.length ∧ 0 ≤ bestOf G m ∧ ∀ j, j < m → bestOf G j < 0 := by
        intro c
        induction c using Nat.strongRecOn with
        | _ c ih =>
          intro hc h0
          by_cases hx : ∃ j, j < c ∧ 0 ≤ bestOf G j
          · obtain ⟨j, h1, h2⟩ := hx; exact ih j h1 (by omega) h2
          · exact ⟨c, hc, h0, fun j hj => by
              rcases Int.lt_or_le (bestOf G j) 0 with h1 | h1
              · exact h1
              · exact absurd ⟨j, hj, h1⟩ hx⟩
      exact key n hnl ((bestOf_round G n).2 hr)
    obtain ⟨m, hm, h0, hf⟩ := this
    rw [cycG_hit hm h0 hf] at h
    have hsp := bestTo_spec (G := G) (d := depthOf G m) (n := m) (K := G.length) h0
    unfold pathR at h
    rw [if_pos (show 0 ≤ dd (depthOf G m) (bestOf G m).toNat from hsp.2.1)] at h
    have := congrArg List.length h
    rw [pathL_length] at this
    simp at this
  · intro h
    refine cycG_none fun m _ => ?_
    rcases Int.lt_or_le (bestOf G m) 0 with h1 | h1
    · exact h1
    · exact absurd ((bestOf_round G m).1 h1) (h m)
end G22
end Go.Proofs.Ytjmenkjmghmkpaa
