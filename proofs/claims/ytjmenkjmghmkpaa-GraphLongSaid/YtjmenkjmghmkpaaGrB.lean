/- Graphs: going on step by step from a node (two ways to do it) tells how many steps any node is away. Plain. -/
import Derived.Test.YtjmenkjmghmkpaaGrD
namespace Go.Proofs.Ytjmenkjmghmkpaa
namespace G22

abbrev dd (d : List Int) (b : Nat) : Int := d.getD b (-1)
theorem dd_set {d : List Int} {k b : Nat} {x : Int} (hk : k < d.length) : dd (d.set k x) b = if b = k then x else dd d b := by
  unfold dd List.getD
  rw [List.getElem?_set]
  by_cases h : k = b
  · subst h; simp [hk]
  · rw [if_neg h, if_neg (fun e => h e.symm)]
theorem dd_out {d : List Int} {b : Nat} (h : d.length ≤ b) : dd d b = -1 := by
  unfold dd List.getD
  rw [List.getElem?_eq_none h]; rfl

/-- p was gone through, q waits. -/
structure Bfs (G : Gr) (a : Nat) (d : List Int) (p q : List Nat) : Prop where
  len : d.length = G.length
  lo : ∀ b, dd d b < 0 → dd d b = -1
  start : dd d a = 0
  walk : ∀ b, 0 ≤ dd d b → Walk G (dd d b).toNat a b
  mem : ∀ b, 0 ≤ dd d b ↔ b ∈ p ++ q
  nodup : (p ++ q).Nodup
  sorted : q.Pairwise (fun x y => dd d x ≤ dd d y)
  near : ∀ x, q.head? = some x → ∀ c, dd d c ≤ dd d x + 1
  done : ∀ b, b ∈ p → ∀ c, Edge G b c → 0 ≤ dd d c ∧ dd d c ≤ dd d b + 1
  hi : ∀ b, dd d b ≤ ((p.length + q.length : Nat) : Int)
theorem Bfs.lt {G : Gr} {a : Nat} {d : List Int} {p q : List Nat} (h : Bfs G a d p q) {b : Nat} (hb : b ∈ p ++ q) : b < G.length := by
  rcases Nat.lt_or_ge b d.length with h1 | h1
  · rw [← h.len]; exact h1
  · have := (h.mem b).2 hb
    rw [dd_out h1] at this
    omega
theorem Bfs.size {G : Gr} {a : Nat} {d : List Int} {p q : List Nat} (h : Bfs G a d p q) : p.length + q.length ≤ G.length := by
  have := nodup_le h.nodup fun x hx => h.lt hx
  simpa using this
theorem bfs_start {G : Gr} {a : Nat} (ha : a < G.length) : Bfs G a ((List.replicate G.length (-1)).set a 0) [] [a] := by
  have hl : a < (List.replicate G.length (-1 : Int)).length := by simpa using ha
  have hd : ∀ b, dd ((List.replicate G.length (-1)).set a 0) b = if b = a then 0 else -1 := by
    intro b
    rw [dd_set hl]
    split
    · rfl
    · unfold dd List.getD
      rw [List.getElem?_replicate]; split <;> rfl
  refine ⟨by simp, fun b hb => ?_, ?_, fun b hb => ?_, fun b => ?_, by simp, by simp, fun x hx c => ?_, fun b hb => (by cases hb), fun b => ?_⟩
  · rw [hd] at hb ⊢; split at hb <;> simp_all
  · rw [hd, if_pos rfl]
  · rw [hd] at hb ⊢
    split at hb
    · next h => subst h; simp; rfl
    · omega
  · rw [hd]
    by_cases h : b = a <;> simp [h]
  · simp at hx
    subst hx
    rw [hd, hd, if_pos rfl]
    split <;> omega
  · rw [hd]; split <;> simp
theorem Bfs.visit {G : Gr} {a n k : Nat} {d : List Int} {p q : List Nat} (h : Bfs G a d p (n :: q)) (he : Edge G n k) (hk : k < G.length) (hn : dd d k < 0) :
    Bfs G a (d.set k (dd d n + 1)) p (n :: (q ++ [k])) := by
  have hkl : k < d.length := by rw [h.len]; exact hk
  have hd := fun b => dd_set (b := b) (x := dd d n + 1) hkl
  have hn0 : 0 ≤ dd d n := (h.mem n).2 (by simp)
  have hnear := h.near n rfl
  have hne : ∀ b, b ∈ p ++ n :: q → b ≠ k := fun b hb e => by
    have := (h.mem b).2 hb
    rw [e] at this; omega
  have hkeep : ∀ b, b ∈ p ++ n :: q → dd (d.set k (dd d n + 1)) b = dd d b := fun b hb => by rw [hd, if_neg (hne b hb)]
  refine ⟨by simp [h.len], fun b hb => ?_, ?_, fun b hb => ?_, fun b => ?_, ?_, ?_, fun x hx c => ?_, fun b hb c hc => ?_, fun b => ?_⟩
  · rw [hd] at hb ⊢
    split at hb
    · omega
    · next hx => rw [if_neg hx]; exact h.lo b hb
  · rw [hd]; split
    · next hx => subst hx; have := h.start; omega
    · exact h.start
  · rw [hd] at hb ⊢
    split
    · next hx =>
      subst hx
      have : (dd d n + 1).toNat = (dd d n).toNat + 1 := by omega
      rw [this]
      exact ⟨n, h.walk n hn0, he⟩
    · next hx => rw [if_neg hx] at hb; exact h.walk b hb
  · rw [hd]
    by_cases hx : b = k
    · subst hx; rw [if_pos rfl]; exact ⟨fun _ => by simp, fun _ => by omega⟩
    · rw [if_neg hx, h.mem b]; simp [hx]
  · have := h.nodup
    have h2 : k ∉ p ++ n :: q := fun hm => hne k hm rfl
    have e : p ++ n :: (q ++ [k]) = (p ++ n :: q) ++ [k] := by simp
    rw [e, List.nodup_append]
    refine ⟨this, by simp, fun x hx y hy => ?_⟩
    simp at hy
    subst hy
    exact hne x hx
  · have e : n :: (q ++ [k]) = (n :: q) ++ [k] := by simp
    rw [e, List.pairwise_append]
    refine ⟨h.sorted.imp_of_mem fun {x y} hx hy hxy => ?_, by simp, fun x hx y hy => ?_⟩
    · rw [hkeep x (List.mem_append.2 (.inr hx)), hkeep y (List.mem_append.2 (.inr hy))]; exact hxy
    · simp at hy
      subst hy
      rw [hkeep x (List.mem_append.2 (.inr hx)), hd, if_pos rfl]
      exact hnear x
  · simp at hx
    subst hx
    rw [hkeep n (by simp), hd]
    split
    · omega
    · exact hnear c
  · have h1 := h.done b hb c hc
    rw [hkeep b (by simp [hb]), hd, if_neg (fun e => by rw [e] at h1; omega)]
    exact h1
  · have h1 := h.hi n
    have h2 := h.hi b
    simp only [List.length_cons, List.length_append, List.length_nil] at h1 h2 ⊢
    rw [hd]; split <;> omega
theorem Bfs.pop {G : Gr} {a n : Nat} {d : List Int} {p q : List Nat} (h : Bfs G a d p (n :: q)) (he : ∀ c, Edge G n c → 0 ≤ dd d c) : Bfs G a d (p ++ [n]) q := by
  have hnear := h.near n rfl
  have hs := List.pairwise_cons.1 h.sorted
  refine ⟨h.len, h.lo, h.start, h.walk, fun b => by rw [h.mem b]; simp, by simpa using h.nodup, hs.2, fun x hx c => ?_, fun b hb c hc => ?_, fun b => by have := h.hi b; simp at this ⊢; omega⟩
  · have hx' : x ∈ q := List.mem_of_mem_head? (by rw [hx]; rfl)
    have := hs.1 x hx'
    have := hnear c
    omega
  · rcases List.mem_append.1 hb with hb | hb
    · exact h.done b hb c hc
    · simp at hb
      subst hb
      exact ⟨he c hc, hnear c⟩
theorem Bfs.final {G : Gr} {a : Nat} {d : List Int} {p : List Nat} (h : Bfs G a d p []) : IsDepth G a d := by
  have hr : ∀ k b, Walk G k a b → 0 ≤ dd d b ∧ dd d b ≤ k := by
    intro k
    induction k with
    | zero =>
      intro b hb
      obtain rfl : a = b := hb
      have := h.start
      omega
    | succ k ih =>
      rintro b ⟨c, hc, he⟩
      obtain ⟨h1, h2⟩ := ih c hc
      have := h.done c (by have := (h.mem c).1 h1; simpa using this) b he
      omega
  refine ⟨h.len, fun b hb => ?_⟩
  rcases Int.lt_or_le (dd d b) 0 with h1 | h1
  · refine .inl ⟨h.lo b h1, fun ⟨k, hk⟩ => ?_⟩
    have := (hr k b hk).1
    omega
  · refine .inr ⟨(dd d b).toNat, by show dd d b = _; omega, h.walk b h1, fun j hj hw => ?_⟩
    have := (hr j b hw).2
    omega
/-- Layer by layer: what is k steps away or nearer is told. -/
def Lay (G : Gr) (a : Nat) (d : List Int) (k : Nat) : Prop :=
  d.length = G.length ∧ ∀ b, b < G.length → (∃ j : Nat, j ≤ k ∧ dd d b = (j : Int) ∧ Least G j a b) ∨ (dd d b = -1 ∧ ∀ j, j ≤ k → ¬ Walk G j a b)
/-- On the way from k to k + 1: P tells which steps were looked at. -/
def Mid (G : Gr) (a : Nat) (d : List Int) (k : Nat) (P : Nat → Nat → Prop) : Prop :=
  d.length = G.length ∧ ∀ b, b < G.length → (∃ j : Nat, j ≤ k + 1 ∧ dd d b = (j : Int) ∧ Least G j a b) ∨ (dd d b = -1 ∧ (∀ j, j ≤ k → ¬ Walk G j a b) ∧ ∀ x, dd d x = (k : Int) → Edge G x b → ¬ P x b)
theorem Lay.mid {G : Gr} {a k : Nat} {d : List Int} (h : Lay G a d k) : Mid G a d k fun _ _ => False :=
  ⟨h.1, fun b hb => by
    rcases h.2 b hb with ⟨j, h1, h2, h3⟩ | ⟨h1, h2⟩
    · exact .inl ⟨j, by omega, h2, h3⟩
    · exact .inr ⟨h1, h2, fun _ _ _ => id⟩⟩
theorem Mid.mono {G : Gr} {a k : Nat} {d : List Int} {P P' : Nat → Nat → Prop} (h : Mid G a d k P) (hp : ∀ x b, b < G.length → dd d x = (k : Int) → Edge G x b → dd d b = -1 → P' x b → P x b) : Mid G a d k P' :=
  ⟨h.1, fun b hb => by
    rcases h.2 b hb with h1 | ⟨h1, h2, h3⟩
    · exact .inl h1
    · exact .inr ⟨h1, h2, fun x hx he hp' => h3 x hx he (hp x b hb hx he h1 hp')⟩⟩
theorem Mid.visit {G : Gr} {a k n b : Nat} {d : List Int} {P : Nat → Nat → Prop} (h : Mid G a d k P) (hb : b < G.length) (he : Edge G n b) (hn : dd d n = (k : Int)) (hd : dd d b < 0) : Mid G a (d.set b ((k : Int) + 1)) k P := by
  have hbl : b < d.length := by rw [h.1]; exact hb
  have hs := fun c => dd_set (b := c) (x := (k : Int) + 1) hbl
  refine ⟨by simp [h.1], fun c hc => ?_⟩
  rw [hs]
  by_cases hcb : c = b
  · subst hcb
    rw [if_pos rfl]
    refine .inl ⟨k + 1, Nat.le_refl _, by omega, ?_⟩
    rcases h.2 c hc with ⟨j, _, h2, _⟩ | ⟨_, h2, _⟩
    · omega
    · rcases h.2 n he.lt with ⟨j, _, g2, g3⟩ | ⟨g1, _⟩
      · obtain rfl : j = k := by omega
        exact ⟨⟨n, g3.1, he⟩, fun i hi => h2 i (by omega)⟩
      · omega
  · rw [if_neg hcb]
    rcases h.2 c hc with h1 | ⟨h1, h2, h3⟩
    · exact .inl h1
    · refine .inr ⟨h1, h2, fun x hx hex => h3 x ?_ hex⟩
      rw [hs] at hx
      split at hx
      · omega
      · exact hx
theorem Mid.lay {G : Gr} {a k : Nat} {d : List Int} {P : Nat → Nat → Prop} (h : Mid G a d k P) (hp : ∀ x b, Edge G x b → dd d x = (k : Int) → P x b) : Lay G a d (k + 1) := by
  refine ⟨h.1, fun b hb => ?_⟩
  rcases h.2 b hb with h1 | ⟨h1, h2, h3⟩
  · exact .inl h1
  · refine .inr ⟨h1, fun j hj hw => ?_⟩
    rcases Nat.lt_or_ge j (k + 1) with hlt | hge
    · exact h2 j (by omega) hw
    · obtain rfl : j = k + 1 := by omega
      obtain ⟨x, hx, he⟩ := hw
      obtain ⟨i, hi⟩ := exists_least ⟨k, hx⟩
      have hik : i ≤ k := by
        rcases Nat.lt_or_ge k i with h5 | h5
        · exact absurd hx (hi.2 k h5)
        · exact h5
      rcases Nat.lt_or_ge i k with h5 | h5
      · exact h2 (i + 1) (by omega) ⟨x, hi.1, he⟩
      · obtain rfl : i = k := by omega
        have hdx : dd d x = (i : Int) := by
          rcases h.2 x he.lt with ⟨j, _, g2, g3⟩ | ⟨_, g2, _⟩
          · rw [g2, g3.unique hi]
          · exact absurd hx (g2 i (Nat.le_refl _))
        exact h3 x hdx he (hp x b he hdx)
theorem lay_start {G : Gr} {a : Nat} {d : List Int} (hl : d.length = G.length) (hd : ∀ b, b < G.length → dd d b = if b = a then 0 else -1) : Lay G a d 0 := by
  refine ⟨hl, fun b hb => ?_⟩
  rw [hd b hb]
  split
  · next h => subst h; exact .inl ⟨0, Nat.le_refl _, rfl, rfl, fun j hj => absurd hj (by omega)⟩
  · next h =>
    refine .inr ⟨rfl, fun j hj hw => ?_⟩
    obtain rfl : j = 0 := by omega
    exact h (Eq.symm hw)
theorem Lay.final {G : Gr} {a : Nat} {d : List Int} (hG : okG G) (ha : a < G.length) (h : Lay G a d G.length) : IsDepth G a d := by
  refine ⟨h.1, fun b hb => ?_⟩
  rcases h.2 b hb with ⟨j, _, h2, h3⟩ | ⟨h1, h2⟩
  · exact .inr ⟨j, h2, h3⟩
  · refine .inl ⟨h1, fun hr => ?_⟩
    obtain ⟨k, hk⟩ := exists_least hr
    exact h2 k (Nat.le_of_lt (hk.lt hG ha)) hk.1
end G22
end Go.Proofs.Ytjmenkjmghmkpaa
