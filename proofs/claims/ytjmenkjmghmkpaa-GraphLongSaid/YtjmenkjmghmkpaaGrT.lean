/- Graphs: groups of nodes that lead to one another, found by one walk through the graph. Plain. -/
import Derived.Test.YtjmenkjmghmkpaaGrP
namespace Go.Proofs.Ytjmenkjmghmkpaa
namespace G22

def gN (l : List Nat) (b : Nat) : Nat := l.getD b 0
def gB (l : List Bool) (b : Nat) : Bool := l.getD b false
theorem getD_set {α : Type} {l : List α} {k b : Nat} {x z : α} (hk : k < l.length) : (l.set k x).getD b z = if b = k then x else l.getD b z := by
  unfold List.getD
  rw [List.getElem?_set]
  by_cases h : k = b
  · subst h; simp [hk]
  · rw [if_neg h, if_neg (fun e => h e.symm)]
def setAll {α : Type} (l : List α) (P : List Nat) (x : α) : List α := P.foldr (fun k l => l.set k x) l
theorem setAll_length {α : Type} (l : List α) (P : List Nat) (x : α) : (setAll l P x).length = l.length := by
  induction P with
  | nil => rfl
  | cons k P ih => simp [setAll, ← ih]
theorem getD_setAll {α : Type} {l : List α} {P : List Nat} {b : Nat} {x z : α} (hP : ∀ k ∈ P, k < l.length) : (setAll l P x).getD b z = if b ∈ P then x else l.getD b z := by
  induction P with
  | nil => simp [setAll]
  | cons k P ih =>
    have e : setAll l (k :: P) x = (setAll l P x).set k x := rfl
    rw [e, getD_set (by rw [setAll_length]; exact hP k (by simp)), ih fun j hj => hP j (by simp [hj])]
    by_cases h1 : b = k
    · simp [h1]
    · by_cases h2 : b ∈ P <;> simp [h1, h2]

structure St where
  met : List Nat
  low : List Nat
  nxt : List Nat
  inn : List Bool
  opn : List Nat
  way : List Nat
  count : Nat
  group : List Nat
  last : Nat
def St.M (s : St) (x : Nat) : Nat := gN s.met x
def St.L (s : St) (x : Nat) : Nat := gN s.low x
def St.X (s : St) (x : Nat) : Nat := gN s.nxt x
def St.K (s : St) (x : Nat) : Nat := gN s.group x
def enterS (s : St) (n : Nat) : St := { s with met := s.met.set n (s.count + 1), low := s.low.set n (s.count + 1), inn := s.inn.set n true, opn := s.opn ++ [n], way := s.way ++ [n], count := s.count + 1 }
def edgeS (s : St) (n : Nat) : St := { s with nxt := s.nxt.set n (s.X n + 1) }
def lowS (s : St) (n v : Nat) : St := { s with low := s.low.set n (min (s.L n) v) }
def wayS (s : St) (w : List Nat) : St := { s with way := w }
def popS (s : St) (O P : List Nat) : St := { s with opn := O, inn := setAll s.inn P false, group := setAll s.group P s.last, last := s.last + 1 }
/-- Done: met, and no longer open. -/
def Dn (G : Gr) (s : St) (x : Nat) : Prop := x < G.length ∧ s.M x ≠ 0 ∧ x ∉ s.opn
def Mut (G : Gr) (x y : Nat) : Prop := Reach G x y ∧ Reach G y x

structure Tj (G : Gr) (s : St) : Prop where
  lmet : s.met.length = G.length
  llow : s.low.length = G.length
  lnxt : s.nxt.length = G.length
  linn : s.inn.length = G.length
  lgrp : s.group.length = G.length
  inn : ∀ b, gB s.inn b = true ↔ b ∈ s.opn
  olt : ∀ x, x ∈ s.opn → x < G.length
  omet : ∀ x, x ∈ s.opn → 1 ≤ s.M x ∧ s.M x ≤ s.count
  osort : s.opn.Pairwise (fun x y => s.M x < s.M y)
  wsub : s.way.Sublist s.opn
  chain : ∀ p a b q, s.way = p ++ a :: b :: q → Reach G a b
  unmet : ∀ x, s.M x = 0 → s.X x = 0
  nle : ∀ x, s.X x ≤ (row G x).length
  edge : ∀ x j y, j < s.X x → (row G x)[j]? = some y → s.M y ≠ 0 ∧ (x ∈ s.opn → y ∈ s.opn → s.L x ≤ s.M y)
  low : ∀ x, x ∈ s.opn → s.L x ≤ s.M x ∧ ∃ y, y ∈ s.opn ∧ s.M y = s.L x ∧ Reach G x y
  fin : ∀ x, x ∈ s.opn → x ∉ s.way → s.X x = (row G x).length ∧ s.L x < s.M x ∧ ∃ p, p ∈ s.opn ∧ s.M p < s.M x ∧ s.L p ≤ s.L x ∧ Reach G p x ∧ ∀ g, g ∈ s.way → s.M g ≤ s.M x → s.M g ≤ s.M p
  done : ∀ x, Dn G s x → s.K x < s.last ∧ ∀ y, Edge G x y → Dn G s y ∧ s.K y ≤ s.K x
  comp : ∀ x y, Dn G s x → Mut G x y → Dn G s y ∧ s.K y = s.K x
  same : ∀ x y, Dn G s x → Dn G s y → s.K x = s.K y → Reach G x y
  used : ∀ c, c < s.last → ∃ x, Dn G s x ∧ s.K x = c

section
variable {G : Gr} {s : St}
theorem Tj.wlt (h : Tj G s) {x : Nat} (hx : x ∈ s.way) : x ∈ s.opn := h.wsub.subset hx
theorem Tj.wsort (h : Tj G s) : s.way.Pairwise (fun x y => s.M x < s.M y) := h.osort.sublist h.wsub
theorem Tj.inj (h : Tj G s) {x y : Nat} (hx : x ∈ s.opn) (hy : y ∈ s.opn) (he : s.M x = s.M y) : x = y := by
  have hs := h.osort
  generalize s.opn = l at *
  induction l with
  | nil => cases hx
  | cons a l ih =>
    obtain ⟨h1, h2⟩ := List.pairwise_cons.1 hs
    rcases List.mem_cons.1 hx with e1 | g1 <;> rcases List.mem_cons.1 hy with e2 | g2
    · rw [e1, e2]
    · have := h1 y g2; rw [e1] at he; omega
    · have := h1 x g1; rw [e2] at he; omega
    · exact ih g1 g2 h2
/-- The least open node isn't finished. -/
theorem Tj.first (h : Tj G s) {x : Nat} (hx : x ∈ s.opn) (hl : ∀ y, y ∈ s.opn → s.M x ≤ s.M y) : x ∈ s.way := by
  by_cases hw : x ∈ s.way
  · exact hw
  · obtain ⟨_, _, p, hp, h1, _⟩ := h.fin x hx hw
    have := hl p hp
    omega
theorem Tj.open_nil (h : Tj G s) (hw : s.way = []) : s.opn = [] := by
  cases ho : s.opn with
  | nil => rfl
  | cons x l =>
    have hs := h.osort
    rw [ho] at hs
    have := h.first (x := x) (by rw [ho]; simp) fun y hy => by
      rw [ho] at hy
      rcases List.mem_cons.1 hy with rfl | hy
      · exact Nat.le_refl _
      · exact Nat.le_of_lt ((List.pairwise_cons.1 hs).1 y hy)
    rw [hw] at this
    cases this
theorem Tj.enter (h : Tj G s) {n : Nat} (hn : n < G.length) (hm : s.M n = 0) (hr : ∀ p t, s.way = p ++ [t] → Reach G t n) : Tj G (enterS s n) := by
  have hno : n ∉ s.opn := fun hx => by have := (h.omet n hx).1; omega
  have hM : ∀ b, (enterS s n).M b = if b = n then s.count + 1 else s.M b := fun b => getD_set (by rw [h.lmet]; exact hn)
  have hL : ∀ b, (enterS s n).L b = if b = n then s.count + 1 else s.L b := fun b => getD_set (by rw [h.llow]; exact hn)
  have hX : ∀ b, (enterS s n).X b = s.X b := fun _ => rfl
  have hK : ∀ b, (enterS s n).K b = s.K b := fun _ => rfl
  have ho : (enterS s n).opn = s.opn ++ [n] := rfl
  have hMo : ∀ b, b ∈ s.opn → (enterS s n).M b = s.M b := fun b hb => by rw [hM, if_neg (fun e : b = n => hno (e ▸ hb))]
  have hLo : ∀ b, b ∈ s.opn → (enterS s n).L b = s.L b := fun b hb => by rw [hL, if_neg (fun e : b = n => hno (e ▸ hb))]
  have hMn : (enterS s n).M n = s.count + 1 := by rw [hM, if_pos rfl]
  have hLn : (enterS s n).L n = s.count + 1 := by rw [hL, if_pos rfl]
  have hD : ∀ x, Dn G (enterS s n) x ↔ Dn G s x := by
    intro x
    unfold Dn
    rw [ho, hM]
    constructor
    · rintro ⟨h1, h2, h3⟩
      simp only [List.mem_append, List.mem_singleton, not_or] at h3
      rw [if_neg h3.2] at h2
      exact ⟨h1, h2, h3.1⟩
    · rintro ⟨h1, h2, h3⟩
      have : x ≠ n := fun e => h2 (e ▸ hm)
      rw [if_neg this]
      exact ⟨h1, h2, by simp [h3, this]⟩
  refine ⟨by simp [enterS, h.lmet], by simp [enterS, h.llow], h.lnxt, by simp [enterS, h.linn], h.lgrp, fun b => ?_, fun x hx => ?_, fun x hx => ?_, ?_, ?_, fun p a b q hq => ?_, fun x hx => ?_, h.nle, fun x j y hj hy => ?_, fun x hx => ?_, fun x hx hw => ?_, fun x hx => ?_, fun x y hx hm' => ?_, fun x y hx hy hk => ?_, fun c hc => ?_⟩
  · rw [ho]
    have : gB (enterS s n).inn b = if b = n then true else gB s.inn b := getD_set (by rw [h.linn]; exact hn)
    rw [this]
    by_cases hb : b = n
    · simp [hb]
    · rw [if_neg hb, h.inn b]; simp [hb]
  · rw [ho] at hx
    rcases List.mem_append.1 hx with hx | hx
    · exact h.olt x hx
    · simp at hx; subst hx; exact hn
  · rw [ho] at hx
    rcases List.mem_append.1 hx with hx | hx
    · have := h.omet x hx
      rw [hMo x hx]
      exact ⟨this.1, Nat.le_succ_of_le this.2⟩
    · simp at hx; subst hx; rw [hMn]; exact ⟨by omega, Nat.le_refl _⟩
  · rw [ho, List.pairwise_append]
    refine ⟨h.osort.imp_of_mem fun {x y} hx hy hxy => by rw [hMo x hx, hMo y hy]; exact hxy, by simp, fun x hx y hy => ?_⟩
    simp at hy
    subst hy
    rw [hMo x hx, hMn]
    have := (h.omet x hx).2
    omega
  · exact List.Sublist.append h.wsub (List.Sublist.refl _)
  · have hq' : s.way ++ [n] = p ++ a :: b :: q := hq
    rcases List.eq_nil_or_concat q with rfl | ⟨q', z, rfl⟩
    · have e : p ++ a :: b :: [] = (p ++ [a]) ++ [b] := by simp
      rw [e] at hq'
      obtain ⟨h1, h2⟩ := List.append_inj' hq' rfl
      simp at h2
      subst h2
      exact hr p a h1
    · have e : p ++ a :: b :: q'.concat z = (p ++ a :: b :: q') ++ [z] := by simp
      rw [e] at hq'
      exact h.chain p a b q' (List.append_inj' hq' rfl).1
  · rw [hM] at hx
    split at hx
    · omega
    · exact h.unmet x hx
  · rw [hX] at hj
    have hxn : x ≠ n := fun e => by subst e; have := h.unmet x hm; omega
    obtain ⟨h1, h2⟩ := h.edge x j y hj hy
    have hyn : y ≠ n := fun e => h1 (e ▸ hm)
    rw [hM, if_neg hyn, hL, if_neg hxn, ho]
    refine ⟨h1, fun hx' hy' => h2 ?_ ?_⟩
    · simpa [hxn] using hx'
    · simpa [hyn] using hy'
  · rw [ho] at hx ⊢
    rcases List.mem_append.1 hx with hx | hx
    · obtain ⟨h1, y, hy, h2, h3⟩ := h.low x hx
      rw [hMo x hx, hLo x hx]
      exact ⟨h1, y, by simp [hy], by rw [hMo y hy]; exact h2, h3⟩
    · simp at hx; subst hx
      rw [hMn, hLn]
      exact ⟨Nat.le_refl _, x, by simp, hMn, .refl _ _⟩
  · rw [ho] at hx
    have hw' : x ∉ s.way ++ [n] := hw
    simp only [List.mem_append, List.mem_singleton, not_or] at hw' hx
    have hx' : x ∈ s.opn := by rcases hx with hx | hx; exact hx; exact absurd hx hw'.2
    obtain ⟨h1, h2, p, hp, h3, h4, h5, h6⟩ := h.fin x hx' hw'.1
    rw [hX, hMo x hx', hLo x hx']
    refine ⟨h1, h2, p, by rw [ho]; simp [hp], by rw [hMo p hp]; exact h3, by rw [hLo p hp]; exact h4, h5, fun g hg hgx => ?_⟩
    have hg' : g ∈ s.way ++ [n] := hg
    rcases List.mem_append.1 hg' with hg' | hg'
    · rw [hMo g (h.wlt hg')] at hgx ⊢
      rw [hMo p hp]
      exact h6 g hg' hgx
    · simp at hg'
      subst hg'
      rw [hMn] at hgx
      have := (h.omet x hx').2
      omega
  · obtain ⟨h1, h2⟩ := h.done x ((hD x).1 hx)
    refine ⟨h1, fun y hy => ?_⟩
    obtain ⟨h3, h4⟩ := h2 y hy
    exact ⟨(hD y).2 h3, h4⟩
  · obtain ⟨h1, h2⟩ := h.comp x y ((hD x).1 hx) hm'
    exact ⟨(hD y).2 h1, h2⟩
  · exact h.same x y ((hD x).1 hx) ((hD y).1 hy) hk
  · obtain ⟨x, hx, hk⟩ := h.used c hc
    exact ⟨x, (hD x).2 hx, hk⟩
theorem Tj.edge_ (h : Tj G s) {t y : Nat} (ht : t ∈ s.way) (hy : (row G t)[s.X t]? = some y) (hm : s.M y ≠ 0) (hl : y ∈ s.opn → s.L t ≤ s.M y) : Tj G (edgeS s t) := by
  have hto := h.wlt ht
  have hX : ∀ b, (edgeS s t).X b = if b = t then s.X t + 1 else s.X b := fun b => getD_set (by rw [h.lnxt]; exact h.olt t hto)
  refine ⟨h.lmet, h.llow, by simp [edgeS, h.lnxt], h.linn, h.lgrp, h.inn, h.olt, h.omet, h.osort, h.wsub, h.chain, fun x hx => ?_, fun x => ?_, fun x j z hj hz => ?_, h.low, fun x hx hw => ?_, h.done, h.comp, h.same, h.used⟩
  · rw [hX, if_neg (fun e : x = t => by subst e; have := (h.omet x hto).1; have : s.M x = 0 := hx; omega)]
    exact h.unmet x hx
  · rw [hX]
    split
    · next e =>
      subst e
      have := (List.getElem?_eq_some_iff.1 hy).1
      omega
    · exact h.nle x
  · rw [hX] at hj
    split at hj
    · next e =>
      subst e
      rcases Nat.lt_or_ge j (s.X x) with h1 | h1
      · exact h.edge x j z h1 hz
      · obtain rfl : j = s.X x := by omega
        rw [hy] at hz
        cases hz
        exact ⟨hm, fun _ => hl⟩
    · exact h.edge x j z hj hz
  · rw [hX, if_neg (fun e : x = t => hw (e ▸ ht))]
    exact h.fin x hx hw
theorem Tj.low_ (h : Tj G s) {t y : Nat} (ht : t ∈ s.way) (hy : y ∈ s.opn) (hr : Reach G t y) : Tj G (lowS s t (s.M y)) := by
  have hto := h.wlt ht
  have hL : ∀ b, (lowS s t (s.M y)).L b = if b = t then min (s.L t) (s.M y) else s.L b := fun b => getD_set (by rw [h.llow]; exact h.olt t hto)
  have hle : ∀ b, (lowS s t (s.M y)).L b ≤ s.L b := fun b => by
    rw [hL]; split
    · next e => subst e; exact Nat.min_le_left _ _
    · exact Nat.le_refl _
  refine ⟨h.lmet, by simp [lowS, h.llow], h.lnxt, h.linn, h.lgrp, h.inn, h.olt, h.omet, h.osort, h.wsub, h.chain, h.unmet, h.nle, fun x j z hj hz => ?_, fun x hx => ?_, fun x hx hw => ?_, h.done, h.comp, h.same, h.used⟩
  · obtain ⟨h1, h2⟩ := h.edge x j z hj hz
    exact ⟨h1, fun hx hz => Nat.le_trans (hle x) (h2 hx hz)⟩
  · obtain ⟨h1, z, hz, h2, h3⟩ := h.low x hx
    refine ⟨Nat.le_trans (hle x) h1, ?_⟩
    rw [hL]
    split
    · next e =>
      subst e
      rcases Nat.le_total (s.L x) (s.M y) with h4 | h4
      · rw [Nat.min_eq_left h4]; exact ⟨z, hz, h2, h3⟩
      · rw [Nat.min_eq_right h4]; exact ⟨y, hy, rfl, hr⟩
    · exact ⟨z, hz, h2, h3⟩
  · obtain ⟨h1, h2, p, hp, h3, h4, h5⟩ := h.fin x hx hw
    have e : (lowS s t (s.M y)).L x = s.L x := by rw [hL, if_neg (fun e : x = t => hw (e ▸ ht))]
    rw [e]
    exact ⟨h1, h2, p, hp, h3, Nat.le_trans (hle p) h4, h5⟩
theorem Tj.wlast (h : Tj G s) {w : List Nat} {n : Nat} (hw : s.way = w ++ [n]) : n ∈ s.way ∧ (∀ g, g ∈ w → s.M g < s.M n) := by
  have := h.wsort
  rw [hw, List.pairwise_append] at this
  exact ⟨by simp [hw], fun g hg => this.2.2 g hg n (by simp)⟩
theorem Tj.root (h : Tj G s) {n : Nat} (hw : s.way = [n]) : ∀ m y, y ∈ s.opn → s.M y = m → s.M n ≤ m := by
  intro m
  induction m using Nat.strongRecOn with
  | _ m ih =>
    intro y hy hm
    by_cases hyw : y ∈ s.way
    · rw [hw] at hyw
      simp at hyw
      subst hyw
      exact Nat.le_of_eq hm
    · obtain ⟨_, _, p, hp, h1, _⟩ := h.fin y hy hyw
      have := ih (s.M p) (by omega) p hp rfl
      omega
theorem Tj.leaveA (h : Tj G s) {w : List Nat} {n : Nat} (hw : s.way = w ++ [n]) (hX : s.X n = (row G n).length) (hl : s.L n < s.M n) (hup : ∀ p u, w = p ++ [u] → s.L u ≤ s.L n) : Tj G (wayS s w) := by
  obtain ⟨hn, hwn⟩ := h.wlast hw
  have hsub : w.Sublist s.way := by rw [hw]; exact List.sublist_append_left _ _
  refine ⟨h.lmet, h.llow, h.lnxt, h.linn, h.lgrp, h.inn, h.olt, h.omet, h.osort, hsub.trans h.wsub, fun p a b q hq => ?_, h.unmet, h.nle, h.edge, h.low, fun x hx hxw => ?_, h.done, h.comp, h.same, h.used⟩
  · have hq' : w = p ++ a :: b :: q := hq
    refine h.chain p a b (q ++ [n]) ?_
    rw [hw, hq']; simp
  · have hxw' : x ∉ w := hxw
    by_cases hxn : x = n
    · subst hxn
      have hne : w ≠ [] := by
        rintro rfl
        obtain ⟨_, y, hy, h1, _⟩ := h.low x hx
        have := h.root (by simpa using hw) _ y hy rfl
        omega
      rcases List.eq_nil_or_concat w with rfl | ⟨p, u, rfl⟩
      · exact absurd rfl hne
      · rw [List.concat_eq_append] at *
        have hu : u ∈ s.way := hsub.subset (by simp)
        refine ⟨hX, hl, u, h.wlt hu, hwn u (by simp), hup p u rfl, h.chain p u x [] (by rw [hw]; simp), fun g hg hgx => ?_⟩
        have hg' : g ∈ p ++ [u] := hg
        rcases List.mem_append.1 hg' with hg' | hg'
        · have := h.wsort
          rw [hw, List.pairwise_append] at this
          have := (List.pairwise_append.1 this.1).2.2 g hg' u (by simp)
          exact Nat.le_of_lt this
        · simp at hg'; subst hg'; exact Nat.le_refl _
    · obtain ⟨h1, h2, p, hp, h3, h4, h5, h6⟩ := h.fin x hx (by rw [hw]; simp [hxw', hxn])
      exact ⟨h1, h2, p, hp, h3, h4, h5, fun g hg hgx => h6 g (hsub.subset hg) hgx⟩
theorem Tj.leaveB (h : Tj G s) {w O P : List Nat} {n : Nat} (hw : s.way = w ++ [n]) (hX : s.X n = (row G n).length) (hl : s.L n = s.M n) (ho : s.opn = O ++ n :: P) : Tj G (popS (wayS s w) O (n :: P)) := by
  obtain ⟨hn, hwn⟩ := h.wlast hw
  have hno : n ∈ s.opn := h.wlt hn
  have hs := h.osort
  rw [ho, List.pairwise_append] at hs
  have hO : ∀ x, x ∈ O → s.M x < s.M n := fun x hx => hs.2.2 x hx n (by simp)
  have hT : ∀ x, x ∈ n :: P → s.M n ≤ s.M x := fun x hx => by
    rcases List.mem_cons.1 hx with rfl | hx
    · exact Nat.le_refl _
    · exact Nat.le_of_lt ((List.pairwise_cons.1 hs.2.1).1 x hx)
  have hsplit : ∀ x, x ∈ s.opn ↔ x ∈ O ∨ x ∈ n :: P := fun x => by rw [ho, List.mem_append]
  have hOo : ∀ x, x ∈ O → x ∈ s.opn := fun x hx => (hsplit x).2 (.inl hx)
  have hTo : ∀ x, x ∈ n :: P → x ∈ s.opn := fun x hx => (hsplit x).2 (.inr hx)
  have hOiff : ∀ x, x ∈ s.opn → s.M x < s.M n → x ∈ O := fun x hx hm => by
    rcases (hsplit x).1 hx with h1 | h1
    · exact h1
    · have := hT x h1; omega
  have hTiff : ∀ x, x ∈ s.opn → s.M n ≤ s.M x → x ∈ n :: P := fun x hx hm => by
    rcases (hsplit x).1 hx with h1 | h1
    · have := hO x h1; omega
    · exact h1
  have hway : ∀ g, g ∈ s.way → s.M g ≤ s.M n := fun g hg => by
    rw [hw] at hg
    rcases List.mem_append.1 hg with hg | hg
    · exact Nat.le_of_lt (hwn g hg)
    · simp at hg; subst hg; exact Nat.le_refl _
  have hTw : ∀ x, x ∈ n :: P → x ≠ n → x ∉ s.way := fun x hx hne hxw => by
    have := hway x hxw
    have := hT x hx
    exact hne (h.inj (hTo x hx) hno (by omega))
  have hF3 : ∀ m x, x ∈ n :: P → s.M x = m → s.L n ≤ s.L x ∧ Reach G n x := by
    intro m
    induction m using Nat.strongRecOn with
    | _ m ih =>
      intro x hx hm
      by_cases hxn : x = n
      · subst hxn; exact ⟨Nat.le_refl _, .refl _ _⟩
      · obtain ⟨_, _, p, hp, h3, h4, h5, h6⟩ := h.fin x (hTo x hx) (hTw x hx hxn)
        have := h6 n hn (hT x hx)
        obtain ⟨g1, g2⟩ := ih (s.M p) (by omega) p (hTiff p hp this) rfl
        exact ⟨Nat.le_trans g1 h4, g2.trans h5⟩
  have hF4 : ∀ m x, x ∈ n :: P → s.M x = m → Reach G x n := by
    intro m
    induction m using Nat.strongRecOn with
    | _ m ih =>
      intro x hx hm
      by_cases hxn : x = n
      · subst hxn; exact .refl _ _
      · obtain ⟨_, h2, _⟩ := h.fin x (hTo x hx) (hTw x hx hxn)
        obtain ⟨_, y, hy, h3, h4⟩ := h.low x (hTo x hx)
        have h5 := (hF3 _ x hx rfl).1
        exact h4.trans (ih (s.M y) (by omega) y (hTiff y hy (by omega)) rfl)
  have hTX : ∀ x, x ∈ n :: P → s.X x = (row G x).length := fun x hx => by
    by_cases hxn : x = n
    · subst hxn; exact hX
    · exact (h.fin x (hTo x hx) (hTw x hx hxn)).1
  have hF5 : ∀ x y, x ∈ n :: P → Edge G x y → s.M y ≠ 0 ∧ (y ∈ s.opn → y ∈ n :: P) := by
    intro x y hx he
    obtain ⟨j, hj, hy⟩ := List.getElem_of_mem he
    obtain ⟨h1, h2⟩ := h.edge x j y (by rw [hTX x hx]; exact hj) (by rw [List.getElem?_eq_getElem hj, hy])
    refine ⟨h1, fun hyo => hTiff y hyo ?_⟩
    have := h2 (hTo x hx) hyo
    have := (hF3 _ x hx rfl).1
    omega
  have hPlt : ∀ k, k ∈ n :: P → k < s.group.length := fun k hk => by rw [h.lgrp]; exact h.olt k (hTo k hk)
  have hPlt2 : ∀ k, k ∈ n :: P → k < s.inn.length := fun k hk => by rw [h.linn]; exact h.olt k (hTo k hk)
  have hK : ∀ b, (popS (wayS s w) O (n :: P)).K b = if b ∈ n :: P then s.last else s.K b := fun b => getD_setAll hPlt
  have hI : ∀ b, gB (popS (wayS s w) O (n :: P)).inn b = if b ∈ n :: P then false else gB s.inn b := fun b => getD_setAll hPlt2
  have hOT : ∀ x, x ∈ O → x ∉ n :: P := fun x hx hx' => by have := hO x hx; have := hT x hx'; omega
  have hD : ∀ x, Dn G (popS (wayS s w) O (n :: P)) x ↔ Dn G s x ∨ x ∈ n :: P := by
    intro x
    constructor
    · rintro ⟨h1, h2, h3⟩
      have h3' : x ∉ O := h3
      by_cases hx : x ∈ n :: P
      · exact .inr hx
      · exact .inl ⟨h1, h2, fun hxo => by rcases (hsplit x).1 hxo with h4 | h4; exact h3' h4; exact hx h4⟩
    · rintro (⟨h1, h2, h3⟩ | hx)
      · exact ⟨h1, h2, fun hxo => h3 (hOo x hxo)⟩
      · refine ⟨h.olt x (hTo x hx), ?_, fun hxo => hOT x hxo hx⟩
        have := (h.omet x (hTo x hx)).1
        show s.M x ≠ 0
        omega
  have hDT : ∀ x, Dn G s x → x ∉ n :: P := fun x hx hx' => hx.2.2 (hTo x hx')
  have hKD : ∀ x, Dn G s x → (popS (wayS s w) O (n :: P)).K x = s.K x := fun x hx => by rw [hK, if_neg (hDT x hx)]
  have hKT : ∀ x, x ∈ n :: P → (popS (wayS s w) O (n :: P)).K x = s.last := fun x hx => by rw [hK, if_pos hx]
  have hcl : ∀ x y, (Dn G s x ∨ x ∈ n :: P) → Edge G x y → (Dn G s y ∨ y ∈ n :: P) := by
    rintro x y (hx | hx) he
    · exact .inl ((h.done x hx).2 y he).1
    · obtain ⟨h1, h2⟩ := hF5 x y hx he
      by_cases hyo : y ∈ s.opn
      · exact .inr (h2 hyo)
      · refine .inl ⟨?_, h1, hyo⟩
        rcases Nat.lt_or_ge y G.length with h3 | h3
        · exact h3
        · refine absurd ?_ h1
          unfold St.M gN List.getD
          rw [List.getElem?_eq_none (by rw [h.lmet]; exact h3)]; rfl
  have hsub : w.Sublist s.way := by rw [hw]; exact List.sublist_append_left _ _
  refine ⟨h.lmet, h.llow, h.lnxt, (setAll_length _ _ _).trans h.linn, (setAll_length _ _ _).trans h.lgrp, fun b => ?_, fun x hx => h.olt x (hOo x hx), fun x hx => h.omet x (hOo x hx), hs.1, ?_, fun p a b q hq => ?_, h.unmet, h.nle, fun x j y hj hy => ?_, fun x hx => ?_, fun x hx hxw => ?_, fun x hx => ?_, fun x y hx hm => ?_, fun x y hx hy hk => ?_, fun c hc => ?_⟩
  · rw [hI]
    show _ ↔ b ∈ O
    by_cases hb : b ∈ n :: P
    · rw [if_pos hb]; exact ⟨fun e => (by cases e), fun hx => absurd hb (hOT b hx)⟩
    · rw [if_neg hb, h.inn b, hsplit b]; exact ⟨fun e => e.resolve_right hb, .inl⟩
  · have h1 := h.wsub.filter (fun x => decide (s.M x < s.M n))
    have e1 : s.way.filter (fun x => decide (s.M x < s.M n)) = w := by
      rw [hw, List.filter_append, List.filter_eq_self.2 fun x hx => by simpa using hwn x hx]; simp
    have e2 : s.opn.filter (fun x => decide (s.M x < s.M n)) = O := by
      rw [ho, List.filter_append, List.filter_eq_self.2 fun x hx => by simpa using hO x hx, List.filter_eq_nil_iff.2 fun x hx => by have := hT x hx; simp; omega]; simp
    rw [e1, e2] at h1
    exact h1
  · have hq' : w = p ++ a :: b :: q := hq
    refine h.chain p a b (q ++ [n]) ?_
    rw [hw, hq']; simp
  · obtain ⟨h1, h2⟩ := h.edge x j y hj hy
    exact ⟨h1, fun hx hy => h2 (hOo x hx) (hOo y hy)⟩
  · obtain ⟨h1, y, hy, h2, h3⟩ := h.low x (hOo x hx)
    refine ⟨h1, y, hOiff y hy ?_, h2, h3⟩
    have := hO x hx
    omega
  · have hxw' : x ∉ w := hxw
    have hxn : x ≠ n := fun e => by have := hO x hx; rw [e] at this; omega
    obtain ⟨h1, h2, p, hp, h3, h4, h5, h6⟩ := h.fin x (hOo x hx) (by rw [hw]; simp [hxw', hxn])
    refine ⟨h1, h2, p, hOiff p hp ?_, h3, h4, h5, fun g hg hgx => h6 g (hsub.subset hg) hgx⟩
    have := hO x hx
    omega
  · rcases (hD x).1 hx with hx | hx
    · obtain ⟨h1, h2⟩ := h.done x hx
      rw [hKD x hx]
      refine ⟨Nat.lt_succ_of_lt h1, fun y hy => ?_⟩
      obtain ⟨h3, h4⟩ := h2 y hy
      exact ⟨(hD y).2 (.inl h3), by rw [hKD y h3]; exact h4⟩
    · rw [hKT x hx]
      refine ⟨Nat.lt_succ_self _, fun y hy => ?_⟩
      have h3 := hcl x y (.inr hx) hy
      refine ⟨(hD y).2 h3, ?_⟩
      rcases h3 with h3 | h3
      · rw [hKD y h3]; exact Nat.le_of_lt (h.done y h3).1
      · rw [hKT y h3]; exact Nat.le_refl _
  · rcases (hD x).1 hx with hx | hx
    · obtain ⟨h1, h2⟩ := h.comp x y hx hm
      exact ⟨(hD y).2 (.inl h1), by rw [hKD x hx, hKD y h1]; exact h2⟩
    · have h3 : Dn G s y ∨ y ∈ n :: P := hm.1.ind (P := fun z => Dn G s z ∨ z ∈ n :: P) (.inr hx) hcl
      rcases h3 with h3 | h3
      · exact absurd hx (hDT x (h.comp y x h3 ⟨hm.2, hm.1⟩).1)
      · exact ⟨(hD y).2 (.inr h3), by rw [hKT x hx, hKT y h3]⟩
  · rcases (hD x).1 hx with hx | hx <;> rcases (hD y).1 hy with hy | hy
    · rw [hKD x hx, hKD y hy] at hk; exact h.same x y hx hy hk
    · rw [hKD x hx, hKT y hy] at hk; have := (h.done x hx).1; omega
    · rw [hKT x hx, hKD y hy] at hk; have := (h.done y hy).1; omega
    · exact (hF4 _ x hx rfl).trans (hF3 _ y hy rfl).2
  · rcases Nat.lt_or_ge c s.last with h1 | h1
    · obtain ⟨x, hx, hk⟩ := h.used c h1
      exact ⟨x, (hD x).2 (.inl hx), by rw [hKD x hx]; exact hk⟩
    · have hc' : c < s.last + 1 := hc
      refine ⟨n, (hD n).2 (.inr (by simp)), ?_⟩
      rw [hKT n (by simp)]
      omega
def startT (n : Nat) : St := ⟨List.replicate n 0, List.replicate n 0, List.replicate n 0, List.replicate n false, [], [], 0, List.replicate n 0, 0⟩
theorem Tj.start : Tj G (startT G.length) := by
  have hz : ∀ n b, (List.replicate n 0).getD b 0 = 0 := fun n b => by unfold List.getD; rw [List.getElem?_replicate]; split <;> rfl
  have hf : ∀ n b, (List.replicate n false).getD b false = false := fun n b => by unfold List.getD; rw [List.getElem?_replicate]; split <;> rfl
  have hD : ∀ x, ¬ Dn G (startT G.length) x := fun x hx => hx.2.1 (hz _ x)
  refine ⟨by simp [startT], by simp [startT], by simp [startT], by simp [startT], by simp [startT], fun b => ?_, fun x hx => (by cases hx), fun x hx => (by cases hx), List.Pairwise.nil, List.Sublist.refl _, fun p a b q hq => ?_, fun x _ => hz _ x, fun x => ?_, fun x j y hj => ?_, fun x hx => (by cases hx), fun x hx => (by cases hx), fun x hx => absurd hx (hD x), fun x y hx => absurd hx (hD x), fun x y hx => absurd hx (hD x), fun c hc => absurd hc (Nat.not_lt_zero _)⟩
  · show gB (List.replicate _ false) b = true ↔ b ∈ []
    rw [show gB (List.replicate G.length false) b = false from hf _ b]; simp
  · have := congrArg List.length hq
    simp [startT] at this
  · rw [show (startT G.length).X x = 0 from hz _ x]; exact Nat.zero_le _
  · rw [show (startT G.length).X x = 0 from hz _ x] at hj; omega
end
end G22
end Go.Proofs.Ytjmenkjmghmkpaa
