/- Graphs: groups in their order. Plain. -/
import Derived.Test.YtjmenkjmghmkpaaGrT
namespace Go.Proofs.Ytjmenkjmghmkpaa
namespace G22

def Free (G : Gr) (D : Nat → Prop) (n : Nat) : Prop := ¬ D n ∧ ∀ k, k < G.length → Reach G k n → D k ∨ Reach G n k
def IsNext (G : Gr) (D : Nat → Prop) (n : Nat) : Prop := n < G.length ∧ Free G D n ∧ ∀ m, m < n → ¬ Free G D m
def IsScc (G : Gr) (n : Nat) (l : List Nat) : Prop := l.Pairwise (· < ·) ∧ ∀ k, k ∈ l ↔ k < G.length ∧ Mut G k n
def Picks (G : Gr) : (Nat → Prop) → List (List Nat) → Prop
  | D, [] => ∀ n, n < G.length → ¬ Free G D n
  | D, l :: ls => ∃ n, IsNext G D n ∧ IsScc G n l ∧ Picks G (fun k => D k ∨ k ∈ l) ls
theorem sorted_ext : ∀ {l m : List Nat}, l.Pairwise (· < ·) → m.Pairwise (· < ·) → (∀ k, k ∈ l ↔ k ∈ m) → l = m
  | [], [], _, _, _ => rfl
  | [], y :: m, _, _, h => absurd ((h y).2 (by simp)) (by simp)
  | x :: l, [], _, _, h => absurd ((h x).1 (by simp)) (by simp)
  | x :: l, y :: m, hl, hm, h => by
    obtain ⟨h1, h2⟩ := List.pairwise_cons.1 hl
    obtain ⟨h3, h4⟩ := List.pairwise_cons.1 hm
    have hxy : x = y := by
      have a := (h x).1 (by simp)
      have b := (h y).2 (by simp)
      rcases List.mem_cons.1 a with a | a
      · exact a
      · rcases List.mem_cons.1 b with b | b
        · exact b.symm
        · have := h1 y b; have := h3 x a; omega
    subst hxy
    congr 1
    refine sorted_ext h2 h4 fun k => ?_
    constructor
    · intro hk
      have := (h k).1 (by simp [hk])
      rcases List.mem_cons.1 this with e | e
      · have := h1 k hk; omega
      · exact e
    · intro hk
      have := (h k).2 (by simp [hk])
      rcases List.mem_cons.1 this with e | e
      · have := h3 k hk; omega
      · exact e
theorem IsNext.unique {G : Gr} {D : Nat → Prop} {m n : Nat} (h : IsNext G D m) (k : IsNext G D n) : m = n := by
  rcases Nat.lt_trichotomy m n with h1 | h1 | h1
  · exact absurd h.2.1 (k.2.2 m h1)
  · exact h1
  · exact absurd k.2.1 (h.2.2 n h1)
theorem Picks.unique {G : Gr} : ∀ {ls ms : List (List Nat)} {D : Nat → Prop}, Picks G D ls → Picks G D ms → ls = ms
  | [], [], _, _, _ => rfl
  | [], m :: ms, D, h, ⟨n, hn, _⟩ => absurd hn.2.1 (h n hn.1)
  | l :: ls, [], D, ⟨n, hn, _⟩, h => absurd hn.2.1 (h n hn.1)
  | l :: ls, m :: ms, D, ⟨n, hn, hl, hp⟩, ⟨n', hn', hm, hp'⟩ => by
    obtain rfl := hn.unique hn'
    obtain rfl : l = m := sorted_ext hl.1 hm.1 fun k => (hl.2 k).trans (hm.2 k).symm
    rw [Picks.unique hp hp']
theorem Picks.congr {G : Gr} {ls : List (List Nat)} {D D' : Nat → Prop} (h : Picks G D ls) (hd : ∀ k, D k ↔ D' k) : Picks G D' ls := by
  have : D = D' := funext fun k => propext (hd k)
  rw [← this]; exact h
/-- out was picked so far, and D is done. -/
def Picked (G : Gr) (out : List (List Nat)) (D : Nat → Prop) : Prop := ∀ ls, Picks G D ls → Picks G (fun _ => False) (out ++ ls)
theorem Picked.start (G : Gr) {D : Nat → Prop} (hd : ∀ k, ¬ D k) : Picked G [] D := fun _ h => h.congr fun k => ⟨fun e => hd k e, False.elim⟩
theorem Picked.step {G : Gr} {out : List (List Nat)} {D D' : Nat → Prop} {n : Nat} {l : List Nat} (h : Picked G out D) (hn : IsNext G D n) (hl : IsScc G n l) (hd : ∀ k, D' k ↔ D k ∨ k ∈ l) : Picked G (out ++ [l]) D' := fun ls hp => by
  have := h (l :: ls) ⟨n, hn, hl, hp.congr hd⟩
  simpa using this
theorem Picked.final {G : Gr} {out : List (List Nat)} {D : Nat → Prop} (h : Picked G out D) (hd : ∀ n, n < G.length → ¬ Free G D n) : Picks G (fun _ => False) out := by
  have := h [] hd
  simpa using this

/-- What is told of the groups' numbers. -/
structure Nums (G : Gr) (grp : List Nat) (count : Nat) : Prop where
  len : grp.length = G.length
  lt : ∀ a, a < G.length → gN grp a < count
  same : ∀ a b, a < G.length → b < G.length → (gN grp a = gN grp b ↔ Mut G a b)
  edge : ∀ a b, Edge G a b → gN grp b ≤ gN grp a
  used : ∀ c, c < count → ∃ a, a < G.length ∧ gN grp a = c
theorem Tj.nums {G : Gr} {s : St} (h : Tj G s) (hw : s.way = []) (hm : ∀ x, x < G.length → s.M x ≠ 0) : Nums G s.group s.last := by
  have ho := h.open_nil hw
  have hD : ∀ x, x < G.length → Dn G s x := fun x hx => ⟨hx, hm x hx, by rw [ho]; simp⟩
  refine ⟨h.lgrp, fun a ha => (h.done a (hD a ha)).1, fun a b ha hb => ⟨fun e => ⟨h.same a b (hD a ha) (hD b hb) e, h.same b a (hD b hb) (hD a ha) e.symm⟩, fun hm => (h.comp b a (hD b hb) ⟨hm.2, hm.1⟩).2⟩, fun a b he => ((h.done a (hD a he.lt)).2 b he).2, fun c hc => ?_⟩
  obtain ⟨x, hx, hk⟩ := h.used c hc
  exact ⟨x, hx.1, hk⟩
/-- the nodes of group c among the first n -/
def nodesTo (grp : List Nat) (n c : Nat) : List Nat := (List.range n).filter fun a => gN grp a == c
theorem mem_nodesTo {grp : List Nat} {n c a : Nat} : a ∈ nodesTo grp n c ↔ a < n ∧ gN grp a = c := by simp [nodesTo]
theorem nodesTo_sorted (grp : List Nat) (n c : Nat) : (nodesTo grp n c).Pairwise (· < ·) := List.pairwise_lt_range.filter _
theorem nodesTo_succ (grp : List Nat) (n c : Nat) : nodesTo grp (n + 1) c = nodesTo grp n c ++ if gN grp n = c then [n] else [] := by
  unfold nodesTo
  rw [List.range_succ, List.filter_append]
  congr 1
  by_cases h : gN grp n = c
  · rw [if_pos h, List.filter_cons, beq_iff_eq.2 h]; rfl
  · rw [if_neg h, List.filter_cons, beq_eq_false_iff_ne.2 h]; rfl
theorem Nums.scc {G : Gr} {grp : List Nat} {count c n : Nat} (h : Nums G grp count) (hn : n < G.length) (hc : gN grp n = c) : IsScc G n (nodesTo grp G.length c) :=
  ⟨nodesTo_sorted _ _ _, fun k => by
    rw [mem_nodesTo]
    exact ⟨fun ⟨h1, h2⟩ => ⟨h1, (h.same k n h1 hn).1 (by rw [h2, hc])⟩, fun ⟨h1, h2⟩ => ⟨h1, by rw [(h.same k n h1 hn).2 h2, hc]⟩⟩⟩
/-- how many steps from a go to group c from another group -/
def cross (G : Gr) (grp : List Nat) (a c : Nat) : Nat := (row G a).countP fun b => gN grp b == c && gN grp a != c
def sumN (l : List Nat) (f : Nat → Nat) : Nat := (l.map f).sum
theorem sumN_append (l m : List Nat) (f : Nat → Nat) : sumN (l ++ m) f = sumN l f + sumN m f := by simp [sumN, List.sum_append]
theorem sumN_zero {l : List Nat} {f : Nat → Nat} : sumN l f = 0 ↔ ∀ a ∈ l, f a = 0 := by
  unfold sumN
  induction l with
  | nil => simp
  | cons a l ih =>
    rw [List.map_cons, List.sum_cons, Nat.add_eq_zero_iff, ih]
    simp
theorem sumN_split (l : List Nat) (f : Nat → Nat) (p q : Nat → Bool) : sumN (l.filter p) f = sumN (l.filter fun a => p a && q a) f + sumN (l.filter fun a => p a && !q a) f := by
  unfold sumN
  induction l with
  | nil => rfl
  | cons a l ih =>
    cases hp : p a <;> cases hq : q a <;> simp [hp, hq, ih] <;> omega
/-- steps to group c from other groups that aren't done -/
def rest (G : Gr) (grp : List Nat) (D : List Bool) (c : Nat) : Nat := sumN ((List.range G.length).filter fun a => !gB D (gN grp a)) fun a => cross G grp a c
theorem rest_step {G : Gr} {grp : List Nat} {D : List Bool} {best c : Nat} (hb : best < D.length) (hd : gB D best = false) :
    rest G grp D c = sumN (nodesTo grp G.length best) (fun a => cross G grp a c) + rest G grp (D.set best true) c := by
  unfold rest
  rw [sumN_split _ _ _ fun a => gN grp a == best]
  have hset : ∀ x, gB (D.set best true) x = if x = best then true else gB D x := fun x => getD_set hb
  congr 2
  · unfold nodesTo
    refine List.filter_congr fun a _ => ?_
    by_cases h : gN grp a = best
    · rw [beq_iff_eq.2 h, h, hd]; rfl
    · rw [beq_eq_false_iff_ne.2 h, Bool.and_false]
  · refine List.filter_congr fun a _ => ?_
    rw [hset]
    by_cases h : gN grp a = best
    · rw [if_pos h, beq_iff_eq.2 h]; simp
    · rw [if_neg h, beq_eq_false_iff_ne.2 h]; simp
theorem rest_zero {G : Gr} {grp : List Nat} {D : List Bool} {c : Nat} : rest G grp D c = 0 ↔ ∀ a b, Edge G a b → gN grp b = c → gN grp a ≠ c → gB D (gN grp a) = true := by
  unfold rest
  rw [sumN_zero]
  constructor
  · intro h a b he hb ha
    cases hd : gB D (gN grp a) with
    | true => rfl
    | false =>
      have := h a (by simp [he.lt, hd])
      unfold cross at this
      rw [List.countP_eq_zero] at this
      have := this b he
      simp [hb, ha] at this
  · intro h a ha
    simp only [List.mem_filter, List.mem_range, Bool.not_eq_true'] at ha
    unfold cross
    rw [List.countP_eq_zero]
    intro b hb
    simp only [Bool.and_eq_true, beq_iff_eq, bne_iff_ne, ne_eq, not_and, Decidable.not_not]
    intro e
    cases Nat.decEq (gN grp a) c with
    | isTrue h1 => exact h1
    | isFalse h1 =>
      have := h a b hb e h1
      rw [ha.2] at this
      cases this
/-- All that leads to what is done is done. -/
def Shut (G : Gr) (grp : List Nat) (D : List Bool) : Prop := ∀ a b, Edge G a b → gB D (gN grp b) = true → gB D (gN grp a) = true
theorem Shut.back {G : Gr} {grp : List Nat} {D : List Bool} {c : Nat} (hG : okG G) (h : Shut G grp D) (h0 : rest G grp D c = 0) {k n : Nat} (hr : Reach G k n) (hn : gB D (gN grp n) = true ∨ gN grp n = c) : gB D (gN grp k) = true ∨ gN grp k = c := by
  obtain ⟨j, hj⟩ := hr
  induction j generalizing n with
  | zero => obtain rfl : k = n := hj; exact hn
  | succ j ih =>
    obtain ⟨x, hx, he⟩ := hj
    refine ih ?_ hx
    rcases hn with hn | hn
    · exact .inl (h x n he hn)
    · by_cases hxc : gN grp x = c
      · exact .inr hxc
      · exact .inl (rest_zero.1 h0 x n he hn hxc)
theorem Nums.free {G : Gr} {grp : List Nat} {count n : Nat} {D : List Bool} (hG : okG G) (h : Nums G grp count) (hs : Shut G grp D) (hn : n < G.length) :
    Free G (fun k => gB D (gN grp k) = true) n ↔ gB D (gN grp n) = false ∧ rest G grp D (gN grp n) = 0 := by
  constructor
  · rintro ⟨h1, h2⟩
    refine ⟨by simpa using h1, rest_zero.2 fun a b he hb ha => ?_⟩
    have hbl : b < G.length := hG _ _ he
    have hmb : Mut G b n := (h.same b n hbl hn).1 hb
    rcases h2 a he.lt (he.reach.trans hmb.1) with h3 | h3
    · exact h3
    · exact absurd ((h.same a n he.lt hn).2 ⟨he.reach.trans hmb.1, h3⟩) ha
  · rintro ⟨h1, h2⟩
    refine ⟨by simp [h1], fun k hk hr => ?_⟩
    rcases hs.back hG h2 hr (.inr rfl) with h3 | h3
    · exact .inl h3
    · exact .inr ((h.same k n hk hn).1 h3).2
theorem Shut.step {G : Gr} {grp : List Nat} {D : List Bool} {best : Nat} (hG : okG G) (h : Shut G grp D) (hb : best < D.length) (h0 : rest G grp D best = 0) : Shut G grp (D.set best true) := by
  have hset : ∀ x, gB (D.set best true) x = if x = best then true else gB D x := fun x => getD_set hb
  intro a b he hb'
  rw [hset] at hb' ⊢
  split
  · rfl
  · next ha =>
    split at hb'
    · next e => exact rest_zero.1 h0 a b he e ha
    · exact h a b he hb'
/-- Of groups that aren't done one can be taken. -/
theorem Nums.some {G : Gr} {grp : List Nat} {count : Nat} {D : List Bool} (hG : okG G) (h : Nums G grp count) : ∀ c, c < count → gB D c = false → ∃ i, i < count ∧ gB D i = false ∧ rest G grp D i = 0 := by
  have : ∀ m c, count - c = m → c < count → gB D c = false → ∃ i, i < count ∧ gB D i = false ∧ rest G grp D i = 0 := by
    intro m
    induction m using Nat.strongRecOn with
    | _ m ih =>
      intro c hm hc hd
      by_cases hz : rest G grp D c = 0
      · exact ⟨c, hc, hd, hz⟩
      · have : ∃ a b, Edge G a b ∧ gN grp b = c ∧ gN grp a ≠ c ∧ gB D (gN grp a) = false := by
          refine Classical.byContradiction fun hn => hz (rest_zero.2 fun a b he hb ha => ?_)
          cases hx : gB D (gN grp a) with
          | true => rfl
          | false => exact absurd ⟨a, b, he, hb, ha, hx⟩ hn
        obtain ⟨a, b, he, hb, ha, hx⟩ := this
        have h1 := h.edge a b he
        have h2 := h.lt a he.lt
        exact ih (count - gN grp a) (by omega) (gN grp a) rfl h2 hx
  exact fun c => this _ c rfl
end G22
end Go.Proofs.Ytjmenkjmghmkpaa
