/- Graphs: walks, the least number of steps, and rows of them. Plain: no program is in sight. -/
namespace Go.Proofs.Ytjmenkjmghmkpaa
abbrev Gr := List (List Nat)
namespace G22

def row (G : Gr) (a : Nat) : List Nat := G.getD a []
def okG (G : Gr) : Prop := ∀ a x, x ∈ row G a → x < G.length
def Edge (G : Gr) (a b : Nat) : Prop := b ∈ row G a
def leads (G : Gr) (a b : Nat) : Bool := (row G a).contains b
def Walk (G : Gr) : Nat → Nat → Nat → Prop
  | 0, a, b => a = b
  | k + 1, a, b => ∃ c, Walk G k a c ∧ Edge G c b
def Reach (G : Gr) (a b : Nat) : Prop := ∃ k, Walk G k a b
/-- k is the least number of steps from a to b. -/
def Least (G : Gr) (k a b : Nat) : Prop := Walk G k a b ∧ ∀ j, j < k → ¬ Walk G j a b
/-- d tells of each node how many steps it is from a; -1: it can't be come to. -/
def IsDepth (G : Gr) (a : Nat) (d : List Int) : Prop :=
  d.length = G.length ∧ ∀ b, b < G.length → (d.getD b (-1) = -1 ∧ ¬ Reach G a b) ∨ ∃ k : Nat, d.getD b (-1) = (k : Int) ∧ Least G k a b

theorem leads_iff {G : Gr} {a b : Nat} : leads G a b = true ↔ Edge G a b := by unfold leads Edge; simp
theorem Edge.lt {G : Gr} {a b : Nat} (h : Edge G a b) : a < G.length := by
  unfold Edge row at h
  rcases Nat.lt_or_ge a G.length with h1 | h1
  · exact h1
  · simp [List.getD, List.getElem?_eq_none h1] at h
theorem Walk.add {G : Gr} {a b : Nat} {j : Nat} (h : Walk G j a b) : ∀ {k c}, Walk G k b c → Walk G (j + k) a c
  | 0, c, hk => by obtain rfl : b = c := hk; exact h
  | k + 1, c, hk => by
    obtain ⟨x, hx, hc⟩ := hk
    exact ⟨x, h.add hx, hc⟩
theorem Reach.refl (G : Gr) (a : Nat) : Reach G a a := ⟨0, rfl⟩
theorem Reach.trans {G : Gr} {a b c : Nat} (h : Reach G a b) (k : Reach G b c) : Reach G a c := by
  obtain ⟨i, hi⟩ := h
  obtain ⟨j, hj⟩ := k
  exact ⟨i + j, hi.add hj⟩
theorem Edge.reach {G : Gr} {a b : Nat} (h : Edge G a b) : Reach G a b := ⟨1, a, rfl, h⟩
theorem Reach.snoc {G : Gr} {a b c : Nat} (h : Reach G a b) (k : Edge G b c) : Reach G a c := h.trans k.reach
/-- What holds of a and goes over from a node to what it leads to holds of all that can be come to. -/
theorem Reach.ind {G : Gr} {P : Nat → Prop} {a b : Nat} (h : Reach G a b) (ha : P a) (hs : ∀ x y, P x → Edge G x y → P y) : P b := by
  obtain ⟨k, hk⟩ := h
  induction k generalizing b with
  | zero => obtain rfl : a = b := hk; exact ha
  | succ k ih =>
    obtain ⟨c, hc, he⟩ := hk
    exact hs c b (ih hc) he
theorem Reach.lt {G : Gr} {a b : Nat} (hG : okG G) (h : Reach G a b) (ha : a < G.length) : b < G.length :=
  h.ind ha fun _ _ _ he => hG _ _ he
theorem Reach.cases {G : Gr} {a b : Nat} (h : Reach G a b) : a = b ∨ ∃ c, Edge G a c ∧ Reach G c b := by
  obtain ⟨k, hk⟩ := h
  induction k generalizing b with
  | zero => exact .inl hk
  | succ k ih =>
    obtain ⟨c, hc, he⟩ := hk
    rcases ih hc with rfl | ⟨x, hx, hr⟩
    · exact .inr ⟨b, he, .refl _ _⟩
    · exact .inr ⟨x, hx, hr.snoc he⟩
theorem exists_least {G : Gr} {a b : Nat} (h : Reach G a b) : ∃ k, Least G k a b := by
  obtain ⟨k, hk⟩ := h
  induction k using Nat.strongRecOn generalizing b with
  | _ k ih =>
    by_cases hj : ∃ j, j < k ∧ Walk G j a b
    · obtain ⟨j, h1, h2⟩ := hj
      exact ih j h1 h2
    · exact ⟨k, hk, fun j h1 h2 => hj ⟨j, h1, h2⟩⟩
theorem Least.unique {G : Gr} {j k a b : Nat} (h : Least G j a b) (h' : Least G k a b) : j = k := by
  rcases Nat.lt_trichotomy j k with hl | hl | hl
  · exact absurd h.1 (h'.2 _ hl)
  · exact hl
  · exact absurd h'.1 (h.2 _ hl)
theorem Least.reach {G : Gr} {k a b : Nat} (h : Least G k a b) : Reach G a b := ⟨k, h.1⟩
theorem IsDepth.unique {G : Gr} {a : Nat} {d d' : List Int} (h : IsDepth G a d) (h' : IsDepth G a d') : d = d' := by
  refine List.ext_getElem (h.1.trans h'.1.symm) fun i h1 h2 => ?_
  have e : d.getD i (-1) = d[i] := by simp [List.getD, h1]
  have e' : d'.getD i (-1) = d'[i] := by simp [List.getD, h2]
  rw [← e, ← e']
  rcases h.2 i (by rw [← h.1]; exact h1) with ⟨g1, g2⟩ | ⟨k, g1, g2⟩ <;> rcases h'.2 i (by rw [← h.1]; exact h1) with ⟨k1, k2⟩ | ⟨k', k1, k2⟩
  · rw [g1, k1]
  · exact absurd k2.reach g2
  · exact absurd g2.reach k2
  · rw [g1, k1, g2.unique k2]
theorem IsDepth.neg {G : Gr} {a b : Nat} {d : List Int} (h : IsDepth G a d) (hb : b < G.length) (hd : d.getD b (-1) < 0) : ¬ Reach G a b := by
  rcases h.2 b hb with ⟨_, h2⟩ | ⟨k, h1, _⟩
  · exact h2
  · omega
theorem IsDepth.pos {G : Gr} {a b : Nat} {d : List Int} (h : IsDepth G a d) (hb : b < G.length) (hd : 0 ≤ d.getD b (-1)) : Least G (d.getD b (-1)).toNat a b := by
  rcases h.2 b hb with ⟨h1, _⟩ | ⟨k, h1, h2⟩
  · omega
  · rw [h1]; exact h2
theorem IsDepth.reach_iff {G : Gr} {a b : Nat} {d : List Int} (h : IsDepth G a d) (hb : b < G.length) : 0 ≤ d.getD b (-1) ↔ Reach G a b := by
  constructor
  · intro hd; exact (h.pos hb hd).reach
  · intro hr
    rcases Int.lt_or_le (d.getD b (-1)) 0 with h1 | h1
    · exact absurd hr (h.neg hb h1)
    · exact h1
/-- The least walk's nodes on the way are least, too. -/
theorem Least.pred {G : Gr} {k a b : Nat} (h : Least G (k + 1) a b) : ∃ c, Least G k a c ∧ Edge G c b := by
  obtain ⟨⟨c, hc, he⟩, hn⟩ := h
  refine ⟨c, ⟨hc, fun j hj hw => hn (j + 1) (by omega) ⟨c, hw, he⟩⟩, he⟩
theorem Least.way {G : Gr} {k a b : Nat} (h : Least G k a b) : ∀ j, j ≤ k → ∃ c, Least G j a c := by
  induction k generalizing b with
  | zero => intro j hj; obtain rfl : j = 0 := by omega
            exact ⟨b, h⟩
  | succ k ih =>
    intro j hj
    rcases Nat.eq_or_lt_of_le hj with rfl | hlt
    · exact ⟨b, h⟩
    · obtain ⟨c, hc, _⟩ := h.pred
      exact ih hc j (by omega)
/-- Different numbers below n are no more than n. -/
theorem nodup_le : ∀ {n : Nat} {l : List Nat}, l.Nodup → (∀ x ∈ l, x < n) → l.length ≤ n
  | 0, [], _, _ => Nat.le_refl _
  | 0, x :: l, _, h => absurd (h x (by simp)) (by omega)
  | n + 1, l, hd, h => by
    have h1 : (l.erase n).length ≤ n := by
      refine nodup_le (hd.erase n) fun x hx => ?_
      have h2 := (hd.mem_erase_iff).1 hx
      have := h x h2.2
      omega
    have := List.length_erase_of_mem (a := n) (l := l)
    by_cases hm : n ∈ l
    · rw [List.length_erase_of_mem hm] at h1; omega
    · rw [List.erase_of_not_mem hm] at h1; omega
theorem Least.lt {G : Gr} {k a b : Nat} (hG : okG G) (ha : a < G.length) (h : Least G k a b) : k < G.length := by
  have hw := h.way
  have : ∃ l : List Nat, l.length = k + 1 ∧ l.Nodup ∧ (∀ x ∈ l, x < G.length ∧ ∃ j, j ≤ k ∧ Least G j a x) := by
    have : ∀ m, m ≤ k + 1 → ∃ l : List Nat, l.length = m ∧ l.Nodup ∧ (∀ x ∈ l, x < G.length ∧ ∃ j, j < m ∧ Least G j a x) := by
      intro m
      induction m with
      | zero => intro _; exact ⟨[], rfl, List.nodup_nil, fun x hx => by cases hx⟩
      | succ m ih =>
        intro hm
        obtain ⟨l, h1, h2, h3⟩ := ih (by omega)
        obtain ⟨c, hc⟩ := hw m (by omega)
        refine ⟨c :: l, by simp [h1], List.nodup_cons.2 ⟨fun hm' => ?_, h2⟩, fun x hx => ?_⟩
        · obtain ⟨_, j, hj, hl⟩ := h3 c hm'
          have := hl.unique hc
          omega
        · rcases List.mem_cons.1 hx with rfl | hx
          · exact ⟨hc.reach.lt hG ha, m, by omega, hc⟩
          · obtain ⟨g1, j, hj, hl⟩ := h3 x hx
            exact ⟨g1, j, by omega, hl⟩
    obtain ⟨l, h1, h2, h3⟩ := this (k + 1) (Nat.le_refl _)
    exact ⟨l, h1, h2, fun x hx => by obtain ⟨g1, j, hj, hl⟩ := h3 x hx; exact ⟨g1, j, by omega, hl⟩⟩
  obtain ⟨l, h1, h2, h3⟩ := this
  have := nodup_le h2 fun x hx => (h3 x hx).1
  omega
end G22
end Go.Proofs.Ytjmenkjmghmkpaa
