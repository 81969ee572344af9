/- What holds of a solver: its trail. Plain. / What holds of a solver: watches; a clause that is looked at. Plain. / What holds of a solver while units go on. Plain. / .. -/
import Derived.Test.YtcebafeaikipmaaZb
namespace Go.Proofs.Ytcebafeaikipmaa.S15

theorem nt_nt (x : Nat) : nt (nt x) = x := by unfold nt; split <;> split <;> omega
theorem nt_half (x : Nat) : nt x / 2 = x / 2 := by unfold nt; split <;> omega
theorem nt_neq (x : Nat) : nt x ≠ x := by unfold nt; split <;> omega
theorem half_eq {x y : Nat} (h : x / 2 = y / 2) : x = y ∨ x = nt y := by unfold nt; split <;> omega
theorem nt_inj {x y : Nat} (h : nt x = nt y) : x = y := by rw [← nt_nt x, h, nt_nt]
/-- the level of a place in the trail -/
def lvl (ends : List Nat) (p : Nat) : Nat := (ends.filter fun e => decide (e ≤ p)).length
/-- the level of a literal's variable -/
def St.lv (s : St) (x : Nat) : Nat := s.level.getD (x / 2) 0
theorem lv_nt (s : St) (x : Nat) : s.lv (nt x) = s.lv x := by unfold St.lv; rw [nt_half]
def ReOk (U : Nat → Prop) (s : St) (p x : Nat) : Option Nat → Prop
  | none => (lvl s.ends p = 0 ∧ U x) ∨ p ∈ s.ends
  | some c => c < s.cls.length ∧ (s.cl c).lits.getD 0 0 = x ∧ ∀ y ∈ (s.cl c).lits, y ≠ x → nt y ∈ s.trail.take p
structure Tr (U : Nat → Prop) (s : St) : Prop where
  ok : ∀ x ∈ s.trail, okL s.vars x
  nd : (s.trail.map (· / 2)).Nodup
  vl : ∀ x, okL s.vars x → s.val x = if x ∈ s.trail then 1 else if nt x ∈ s.trail then 2 else 0
  dn : s.done ≤ s.trail.length
  en : s.ends.Pairwise (· < ·)
  el : ∀ e ∈ s.ends, e < s.trail.length ∧ e ≤ s.done
  le : ∀ p x, s.trail[p]? = some x → s.lv x = lvl s.ends p
  re : ∀ p x, s.trail[p]? = some x → ReOk U s p x (s.reason.getD (x / 2) none)
theorem lvl_le (E : List Nat) (p : Nat) : lvl E p ≤ E.length := List.length_filter_le _ _
theorem lvl_mono (E : List Nat) {p q : Nat} (h : p ≤ q) : lvl E p ≤ lvl E q := by
  unfold lvl
  induction E with
  | nil => simp
  | cons e E ih =>
    simp only [List.filter_cons]
    by_cases h1 : e ≤ p
    · rw [if_pos (by simpa using h1), if_pos (by simp; omega)]; simp; omega
    · rw [if_neg (by simpa using h1)]
      split
      · simp; omega
      · exact ih
theorem lvl_top {E : List Nat} {p : Nat} (h : ∀ e ∈ E, e ≤ p) : lvl E p = E.length := by
  unfold lvl
  rw [List.filter_eq_self.2 (by simpa using h)]
theorem lvl_take {E : List Nat} (h : E.Pairwise (· < ·)) {k p : Nat} (hk : k < E.length) (hp : p < E[k]) : lvl E p = lvl (E.take k) p := by
  unfold lvl
  conv => lhs; rw [← List.take_append_drop k E]
  rw [List.filter_append]
  have : (E.drop k).filter (fun e => decide (e ≤ p)) = [] := by
    rw [List.filter_eq_nil_iff]
    intro e he
    obtain ⟨i, hi, rfl⟩ := List.mem_iff_getElem.1 he
    have h2 : E[k] ≤ (E.drop k)[i] := by
      rw [List.getElem_drop]
      by_cases e : i = 0
      · subst e; simp
      · exact Nat.le_of_lt (List.pairwise_iff_getElem.1 h _ _ _ _ (by omega))
    have h3 : ¬ (E.drop k)[i] ≤ p := by omega
    simpa using h3
  rw [this, List.append_nil]
theorem lvl_lt {E : List Nat} (h : E.Pairwise (· < ·)) {k p : Nat} (hk : k < E.length) : lvl E p ≤ k ↔ p < E[k] := by
  constructor
  · intro hl
    apply Nat.lt_of_not_le
    intro hp
    have : k + 1 ≤ lvl E p := by
      have h1 : lvl (E.take (k + 1)) p = k + 1 := by
        rw [lvl_top]
        · simp; omega
        · intro e he
          obtain ⟨i, hi, rfl⟩ := List.mem_iff_getElem.1 he
          rw [List.getElem_take]
          have hik : i ≤ k := by simp at hi; omega
          rcases Nat.lt_or_eq_of_le hik with hlt | heq
          · exact Nat.le_trans (Nat.le_of_lt (List.pairwise_iff_getElem.1 h i k (by omega) hk hlt)) hp
          · subst heq; exact hp
      have h2 : lvl (E.take (k + 1)) p ≤ lvl E p := by
        unfold lvl
        conv => rhs; rw [← List.take_append_drop (k + 1) E]
        rw [List.filter_append, List.length_append]
        omega
      omega
    omega
  · intro hp
    rw [lvl_take h hk hp]
    exact Nat.le_trans (lvl_le _ _) (by simp; omega)
section
variable {U : Nat → Prop} {s : St}
theorem Tr.var_inj (h : Tr U s) {p q x y : Nat} (hp : s.trail[p]? = some x) (hq : s.trail[q]? = some y) (he : x / 2 = y / 2) : p = q := by
  obtain ⟨hp1, rfl⟩ := List.getElem?_eq_some_iff.1 hp
  obtain ⟨hq1, rfl⟩ := List.getElem?_eq_some_iff.1 hq
  have := h.nd
  rw [List.nodup_iff_pairwise_ne, List.pairwise_map] at this
  rcases Nat.lt_trichotomy p q with hlt | heq | hgt
  · exact (List.pairwise_iff_getElem.1 this p q hp1 hq1 hlt he).elim
  · exact heq
  · exact (List.pairwise_iff_getElem.1 this q p hq1 hp1 hgt he.symm).elim
theorem Tr.not_both (h : Tr U s) {x : Nat} (h1 : x ∈ s.trail) (h2 : nt x ∈ s.trail) : False := by
  obtain ⟨p, hp, e1⟩ := List.mem_iff_getElem.1 h1
  obtain ⟨q, hq, e2⟩ := List.mem_iff_getElem.1 h2
  have g1 : s.trail[p]? = some x := by rw [List.getElem?_eq_getElem hp, e1]
  have g2 : s.trail[q]? = some (nt x) := by rw [List.getElem?_eq_getElem hq, e2]
  have := h.var_inj g1 g2 (nt_half x).symm
  subst this
  rw [g1] at g2
  exact nt_neq x (Option.some.inj g2).symm
theorem Tr.val1 (h : Tr U s) {x : Nat} (hx : okL s.vars x) : s.val x = 1 ↔ x ∈ s.trail := by
  rw [h.vl x hx]
  constructor
  · intro e; split at e
    · assumption
    · split at e <;> simp at e
  · intro e; rw [if_pos e]
theorem Tr.val2 (h : Tr U s) {x : Nat} (hx : okL s.vars x) : s.val x = 2 ↔ nt x ∈ s.trail := by
  rw [h.vl x hx]
  constructor
  · intro e; split at e
    · simp at e
    · split at e
      · assumption
      · simp at e
  · intro e
    rw [if_neg (fun e2 => h.not_both e2 e), if_pos e]
theorem Tr.val0 (h : Tr U s) {x : Nat} (hx : okL s.vars x) : s.val x = 0 ↔ x ∉ s.trail ∧ nt x ∉ s.trail := by
  rw [h.vl x hx]
  constructor
  · intro e; split at e
    · simp at e
    · split at e
      · simp at e
      · exact ⟨‹_›, ‹_›⟩
  · rintro ⟨e1, e2⟩
    rw [if_neg e1, if_neg e2]
theorem Tr.val_le (h : Tr U s) {x : Nat} (hx : okL s.vars x) : s.val x ≤ 2 := by
  rw [h.vl x hx]; split
  · omega
  · split <;> omega
theorem nodup_le' : ∀ {n : Nat} {l : List Nat}, l.Nodup → (∀ x ∈ l, x < n) → l.length ≤ n
  | 0, l, _, h => by
    cases l with
    | nil => simp
    | cons x l => exact absurd (h x (List.mem_cons_self ..)) (by omega)
  | n + 1, l, hd, h => by
    have h1 : (l.erase n).length ≤ n := nodup_le' (hd.erase n) fun x hx => by
      have h2 := (List.Nodup.mem_erase_iff hd).1 hx
      have := h x h2.2
      omega
    have h2 := List.length_erase (a := n) (l := l)
    split at h2 <;> omega
theorem Tr.len (h : Tr U s) : s.trail.length ≤ s.vars := by
  have : ((s.trail.map (· / 2)).map (· - 1)).length ≤ s.vars := nodup_le' ?_ fun x hx => ?_
  · simpa using this
  · rw [List.nodup_iff_pairwise_ne, List.pairwise_map]
    have h2 := h.nd
    rw [List.nodup_iff_pairwise_ne] at h2
    refine List.Pairwise.imp_of_mem (fun {a b} ha hb hab => ?_) h2
    obtain ⟨x, hx, rfl⟩ := List.mem_map.1 ha
    obtain ⟨y, hy, rfl⟩ := List.mem_map.1 hb
    have := (h.ok x hx).1
    have := (h.ok y hy).1
    omega
  · simp only [List.map_map, List.mem_map] at hx
    obtain ⟨y, hy, rfl⟩ := hx
    have := h.ok y hy
    unfold okL at this
    simp; omega
/-- a literal more in the trail -/
theorem Tr.set (h : Tr U s) (hp : Shp s) {E : List Nat} {x : Nat} {b : Option Nat} (hx : okL s.vars x) (h0 : s.val x = 0) (hE : E.Pairwise (· < ·)) (hE2 : ∀ e ∈ E, e ≤ s.trail.length ∧ e ≤ s.done)
    (hE3 : ∀ p, p < s.trail.length → lvl E p = lvl s.ends p) (hE4 : ∀ p, p ∈ s.ends → p ∈ E) (hb : match b with | none => (E = [] ∧ U x) ∨ s.trail.length ∈ E | some c => c < s.cls.length ∧ (s.cl c).lits.getD 0 0 = x ∧ ∀ y ∈ (s.cl c).lits, y ≠ x → nt y ∈ s.trail) :
    Tr U (setS { s with ends := E } x b) := by
  obtain ⟨n1, n2⟩ := (h.val0 hx).1 h0
  have hxv : x < s.value.length := by rw [hp.va]; exact hx.2
  have hxv2 : nt x < s.value.length := by rw [hp.va]; exact (okL_nt hx).2
  have hxl : x / 2 < s.level.length := by rw [hp.le]; have := hx.2; omega
  have hxr : x / 2 < s.reason.length := by rw [hp.re]; have := hx.2; omega
  have hnv : ∀ y ∈ s.trail, y / 2 ≠ x / 2 := fun y hy e => by
    rcases half_eq e with e | e
    · exact n1 (e ▸ hy)
    · exact n2 (e ▸ hy)
  have hlen : ∀ p y, s.trail[p]? = some y → p < s.trail.length := fun p y e => (List.getElem?_eq_some_iff.1 e).1
  have hmem : ∀ p y, s.trail[p]? = some y → y ∈ s.trail := fun p y e => List.mem_of_getElem? e
  refine ⟨?_, ?_, ?_, ?_, hE, ?_, ?_, ?_⟩
  · intro y hy
    rcases List.mem_append.1 hy with hy | hy
    · exact h.ok y hy
    · rw [List.mem_singleton.1 hy]; exact hx
  · show ((s.trail ++ [x]).map (· / 2)).Nodup
    rw [List.map_append, List.nodup_append]
    refine ⟨h.nd, by simp, fun a ha b' hb' => ?_⟩
    obtain ⟨y, hy, rfl⟩ := List.mem_map.1 ha
    simp at hb'
    rw [hb']
    exact hnv y hy
  · intro y hy
    have e1 : (setS { s with ends := E } x b).val y = if y = nt x then 2 else if y = x then 1 else s.val y := by
      unfold setS St.val
      simp only [List.getD_eq_getElem?_getD]
      by_cases e : y = nt x
      · subst e; rw [if_pos rfl, List.getElem?_set_self (by simpa using hxv2)]; rfl
      · rw [if_neg e, List.getElem?_set_ne (fun e2 => e e2.symm)]
        by_cases e2 : y = x
        · subst e2; rw [if_pos rfl, List.getElem?_set_self hxv]; rfl
        · rw [if_neg e2, List.getElem?_set_ne (fun e3 => e2 e3.symm)]
    rw [e1]
    have e2 : (setS { s with ends := E } x b).trail = s.trail ++ [x] := rfl
    rw [e2]
    by_cases e : y = nt x
    · subst e
      rw [if_pos rfl, if_neg (by simp [n2, nt_neq]), if_pos (by simp [nt_nt])]
    · rw [if_neg e]
      by_cases e3 : y = x
      · subst e3; rw [if_pos rfl, if_pos (by simp)]
      · rw [if_neg e3, h.vl y hy]
        have m1 : (y ∈ s.trail ++ [x]) ↔ y ∈ s.trail := by simp [e3]
        have m2 : (nt y ∈ s.trail ++ [x]) ↔ nt y ∈ s.trail := by
          have : nt y ≠ x := fun e4 => e (by rw [← e4, nt_nt])
          simp [this]
        simp only [m1, m2]
  · show s.done ≤ (s.trail ++ [x]).length
    have := h.dn; simp; omega
  · intro e he
    have := hE2 e he
    show e < (s.trail ++ [x]).length ∧ e ≤ s.done
    simp; omega
  · intro p y hy
    have hy' : (s.trail ++ [x])[p]? = some y := hy
    show (s.level.set (x / 2) E.length).getD (y / 2) 0 = lvl E p
    rcases Nat.lt_or_ge p s.trail.length with hlt | hge
    · rw [List.getElem?_append_left hlt] at hy'
      rw [hE3 p hlt, ← h.le p y hy']
      unfold St.lv
      rw [List.getD_eq_getElem?_getD, List.getElem?_set_ne (fun e => hnv y (hmem p y hy') e.symm), ← List.getD_eq_getElem?_getD]
    · rw [List.getElem?_append_right hge] at hy'
      have hp0 : p = s.trail.length := by
        have := (List.getElem?_eq_some_iff.1 hy').1
        simp at this; omega
      subst hp0
      simp at hy'
      subst hy'
      rw [lvl_top fun e he => (hE2 e he).1, List.getD_eq_getElem?_getD, List.getElem?_set_self hxl]
      rfl
  · intro p y hy
    have hy' : (s.trail ++ [x])[p]? = some y := hy
    show ReOk U (setS { s with ends := E } x b) p y ((s.reason.set (x / 2) b).getD (y / 2) none)
    rcases Nat.lt_or_ge p s.trail.length with hlt | hge
    · rw [List.getElem?_append_left hlt] at hy'
      rw [List.getD_eq_getElem?_getD, List.getElem?_set_ne (fun e => hnv y (hmem p y hy') e.symm), ← List.getD_eq_getElem?_getD]
      have h2 := h.re p y hy'
      cases hr : s.reason.getD (y / 2) none with
      | none =>
        rw [hr] at h2
        exact h2.imp (fun ⟨a, b⟩ => ⟨by show lvl E p = 0; rw [hE3 p hlt]; exact a, b⟩) (hE4 p)
      | some c =>
        rw [hr] at h2
        refine ⟨h2.1, h2.2.1, fun z hz hne => ?_⟩
        show nt z ∈ (s.trail ++ [x]).take p
        rw [List.take_append_of_le_length (Nat.le_of_lt hlt)]
        exact h2.2.2 z hz hne
    · rw [List.getElem?_append_right hge] at hy'
      have hp0 : p = s.trail.length := by
        have := (List.getElem?_eq_some_iff.1 hy').1
        simp at this; omega
      subst hp0
      simp at hy'
      subst hy'
      rw [List.getD_eq_getElem?_getD, List.getElem?_set_self hxr, Option.getD_some]
      cases b with
      | none =>
        refine hb.imp (fun ⟨a, b⟩ => ⟨?_, b⟩) id
        show lvl E _ = 0
        rw [a]; rfl
      | some c =>
        refine ⟨hb.1, hb.2.1, fun z hz hne => ?_⟩
        show nt z ∈ (s.trail ++ [x]).take s.trail.length
        rw [List.take_append_of_le_length (Nat.le_refl _), List.take_length]
        exact hb.2.2 z hz hne
end
end Go.Proofs.Ytcebafeaikipmaa.S15

namespace Go.Proofs.Ytcebafeaikipmaa.S15

theorem swp_perm {l : List Nat} {i j : Nat} (hi : i < l.length) (hj : j < l.length) : (swp l i j).Perm l := by
  have h := Array.swap_perm (xs := l.toArray) (i := i) (j := j) (by simpa using hi) (by simpa using hj)
  have e : (l.toArray.swap i j (by simpa using hi) (by simpa using hj)) = (swp l i j).toArray := by
    unfold swp
    simp [Array.swap, hi, hj]
  rw [e] at h
  exact Array.perm_iff_toList_perm.1 h
theorem swp_at (l : List Nat) {i j : Nat} (hi : i < l.length) (hj : j < l.length) (k : Nat) : (swp l i j).getD k 0 = if k = j then l.getD i 0 else if k = i then l.getD j 0 else l.getD k 0 := by
  unfold swp
  simp only [List.getD_eq_getElem?_getD]
  by_cases e : k = j
  · subst e; rw [if_pos rfl, List.getElem?_set_self (by simpa using hj)]; rfl
  · rw [if_neg e, List.getElem?_set_ne (fun e2 => e e2.symm)]
    by_cases e2 : k = i
    · subst e2; rw [if_pos rfl, List.getElem?_set_self hi]; rfl
    · rw [if_neg e2, List.getElem?_set_ne (fun e3 => e2 e3.symm)]
theorem findF_some {v : List Nat} : ∀ {l : List Nat} {i j : Nat}, findF v l i = some j → i ≤ j ∧ j < i + l.length ∧ v.getD (l.getD (j - i) 0) 0 ≠ 2
  | [], _, _, h => by cases h
  | x :: l, i, j, h => by
    unfold findF at h
    split at h
    · obtain ⟨h1, h2, h3⟩ := findF_some h
      have e : j - i = (j - (i + 1)) + 1 := by omega
      refine ⟨by omega, by simp; omega, ?_⟩
      rw [e]; simpa using h3
    · cases h
      refine ⟨Nat.le_refl _, by simp, ?_⟩
      simpa using ‹¬ _›
theorem findF_none {v : List Nat} : ∀ {l : List Nat} {i : Nat}, findF v l i = none → ∀ y ∈ l, v.getD y 0 = 2
  | [], _, _, y, hy => by cases hy
  | x :: l, i, h, y, hy => by
    unfold findF at h
    split at h
    · rcases List.mem_cons.1 hy with e | hy
      · rw [e]; assumption
      · exact findF_none h y hy
    · cases h
def St.l0 (s : St) (c : Nat) : Nat := (s.cl c).lits.getD 0 0
def St.l1 (s : St) (c : Nat) : Nat := (s.cl c).lits.getD 1 0
def St.wa (s : St) (y : Nat) : List Nat := s.watch.getD y []
def Dcl (D : List Nat → Prop) : Prop := ∀ l l', List.Perm l l' → D l → D l'
/-- the clauses' literals -/
def Lt3 (D : List Nat → Prop) (s : St) : Prop := ∀ c, c < s.cls.length → 2 ≤ (s.cl c).lits.length ∧ (s.cl c).lits.Nodup ∧ (∀ x ∈ (s.cl c).lits, okL s.vars x) ∧ D (s.cl c).lits
structure Wa (s : St) : Prop where
  nd : ∀ y, (s.wa y).Nodup
  of : ∀ y, ∀ c ∈ s.wa y, c < s.cls.length ∧ (y = s.l0 c ∨ y = s.l1 c)
  at_ : ∀ c, c < s.cls.length → (s.cl c).gone = false → c ∈ s.wa (s.l0 c) ∧ c ∈ s.wa (s.l1 c)
/-- of two watched literals of which one is false and was looked at the other one is true, from no later level -/
def Prp (s : St) (P : Nat → Nat → Prop) : Prop := ∀ c, c < s.cls.length → (s.cl c).gone = false → ∀ a b, (a = s.l0 c ∧ b = s.l1 c ∨ a = s.l1 c ∧ b = s.l0 c) → ¬ P c a → nt a ∈ s.trail.take s.done → b ∈ s.trail ∧ s.lv b ≤ s.lv a
def eff (s : St) (x : Nat) (l : List Nat) : St := { s with watch := s.watch.set x l }
theorem eff_self {s : St} {x : Nat} {l : List Nat} (h : s.wa x = l) : eff s x l = s := by
  unfold eff
  have : s.watch.set x l = s.watch := by
    subst h
    unfold St.wa
    by_cases hx : x < s.watch.length
    · rw [List.getD_eq_getElem?_getD, List.getElem?_eq_getElem hx]; simp
    · rw [List.set_eq_of_length_le (Nat.le_of_not_lt hx)]
  rw [this]
theorem wa_eff {s : St} {x : Nat} {l : List Nat} (hx : x < s.watch.length) (y : Nat) : (eff s x l).wa y = if y = x then l else s.wa y := by
  unfold eff St.wa
  simp only [List.getD_eq_getElem?_getD]
  by_cases e : y = x
  · subst e; rw [if_pos rfl, List.getElem?_set_self hx]; rfl
  · rw [if_neg e, List.getElem?_set_ne (fun e2 => e e2.symm)]
theorem wa_push {s : St} {x c : Nat} (hx : x < s.watch.length) (y : Nat) : (pushW s x c).wa y = if y = x then s.wa x ++ [c] else s.wa y := wa_eff (l := s.wa x ++ [c]) hx y
/-- what stays while units go on -/
structure Ext (s s' : St) : Prop where
  vars : s'.vars = s.vars
  ends : s'.ends = s.ends
  proof : s'.proof = s.proof
  learned : s'.learned = s.learned
  clauses : s'.clauses = s.clauses
  act : s'.act = s.act
  step : s'.step = s.step
  phase : s'.phase = s.phase
  seen : s'.seen = s.seen
  len : s'.cls.length = s.cls.length
  cl : ∀ c, (s'.cl c).used = (s.cl c).used ∧ (s'.cl c).gone = (s.cl c).gone ∧ (s'.cl c).lits.Perm (s.cl c).lits
  tr : ∃ t, s'.trail = s.trail ++ t
  dn : s.done ≤ s'.done
theorem Ext.refl (s : St) : Ext s s := ⟨rfl, rfl, rfl, rfl, rfl, rfl, rfl, rfl, rfl, rfl, fun _ => ⟨rfl, rfl, List.Perm.refl _⟩, ⟨[], by simp⟩, Nat.le_refl _⟩
theorem Ext.trans {a b c : St} (h : Ext a b) (k : Ext b c) : Ext a c :=
  ⟨k.vars.trans h.vars, k.ends.trans h.ends, k.proof.trans h.proof, k.learned.trans h.learned, k.clauses.trans h.clauses, k.act.trans h.act, k.step.trans h.step, k.phase.trans h.phase, k.seen.trans h.seen, k.len.trans h.len,
   fun i => ⟨(k.cl i).1.trans (h.cl i).1, (k.cl i).2.1.trans (h.cl i).2.1, (k.cl i).2.2.trans (h.cl i).2.2⟩,
   by obtain ⟨t, ht⟩ := h.tr; obtain ⟨u, hu⟩ := k.tr; exact ⟨t ++ u, by rw [hu, ht, List.append_assoc]⟩, Nat.le_trans h.dn k.dn⟩
theorem ext_eff (s : St) (x : Nat) (l : List Nat) : Ext s (eff s x l) := ⟨rfl, rfl, rfl, rfl, rfl, rfl, rfl, rfl, rfl, rfl, fun _ => ⟨rfl, rfl, List.Perm.refl _⟩, ⟨[], by simp [eff]⟩, Nat.le_refl _⟩
/-- while the watches of x are gone through: r are still to come -/
structure Mid (U : Nat → Prop) (D : List Nat → Prop) (s : St) (x : Nat) (r : List Nat) (bad : Option Nat) : Prop where
  shp : Shp s
  lt : Lt3 D s
  tr : Tr U s
  wa : Wa s
  pr : Prp s fun c a => a = x ∧ (c ∈ r ∨ bad ≠ none)
  ox : okL s.vars x
  fx : nt x ∈ s.trail
  lx : s.lv x = s.ends.length
  bd : ∀ b, bad = some b → b < s.cls.length ∧ (∀ y ∈ (s.cl b).lits, nt y ∈ s.trail) ∧ x ∈ (s.cl b).lits
section
variable {U : Nat → Prop} {D : List Nat → Prop} {s : St} {x c : Nat} {r kept : List Nat}
theorem Tr.cls (h : Tr U s) {s' : St} (h1 : s'.vars = s.vars) (h2 : s'.trail = s.trail) (h3 : s'.value = s.value) (h4 : s'.level = s.level) (h5 : s'.reason = s.reason) (h6 : s'.ends = s.ends) (h7 : s'.done = s.done) (h8 : s'.cls.length = s.cls.length)
    (hc : ∀ p z c : Nat, s.trail[p]? = some z → s.reason.getD (z / 2) none = some c → (s'.cl c).lits.getD 0 0 = (s.cl c).lits.getD 0 0 ∧ ∀ y ∈ (s'.cl c).lits, y ∈ (s.cl c).lits) : Tr U s' := by
  refine ⟨by rw [h1, h2]; exact h.ok, by rw [h2]; exact h.nd, ?_, by rw [h7, h2]; exact h.dn, by rw [h6]; exact h.en, by rw [h6, h2, h7]; exact h.el, ?_, ?_⟩
  · intro y hy
    have := h.vl y (h1 ▸ hy)
    unfold St.val at this ⊢
    rw [h3, h2]; exact this
  · intro p z hz
    rw [h2] at hz
    have := h.le p z hz
    unfold St.lv at this ⊢
    rw [h4, h6]; exact this
  · intro p z hz
    rw [h2] at hz
    have h9 := h.re p z hz
    rw [h5]
    cases hr : s.reason.getD (z / 2) none with
    | none =>
      rw [hr] at h9
      unfold ReOk at h9 ⊢
      rw [h6]; exact h9
    | some c =>
      rw [hr] at h9
      obtain ⟨k1, k2⟩ := hc p z c hz hr
      exact ⟨by rw [h8]; exact h9.1, k1.trans h9.2.1, fun y hy hne => by rw [h2]; exact h9.2.2 y (k2 y hy) hne⟩
theorem getD_mem {l : List Nat} {k : Nat} (h : k < l.length) : l.getD k 0 ∈ l := by rw [List.getD_eq_getElem?_getD, List.getElem?_eq_getElem h]; simp
theorem nodup_getD {l : List Nat} (hd : l.Nodup) {i j : Nat} (hi : i < l.length) (hj : j < l.length) (he : l.getD i 0 = l.getD j 0) : i = j := by
  rw [List.getD_eq_getElem?_getD, List.getElem?_eq_getElem hi, List.getD_eq_getElem?_getD, List.getElem?_eq_getElem hj] at he
  have := hd
  rw [List.nodup_iff_pairwise_ne] at this
  rcases Nat.lt_trichotomy i j with h | h | h
  · exact (List.pairwise_iff_getElem.1 this i j hi hj h (by simpa using he)).elim
  · exact h
  · exact (List.pairwise_iff_getElem.1 this j i hj hi h (by simpa using he.symm)).elim
/-- the false one is put last: x is the second literal now -/
theorem Mid.turn (hD : Dcl D) (h : Mid U D s x (c :: r) none) (hw : s.wa x = kept ++ c :: r) :
    Mid U D (setL s c (turnL (s.cl c).lits x)) x (c :: r) none ∧ (setL s c (turnL (s.cl c).lits x)).wa x = kept ++ c :: r ∧ Ext s (setL s c (turnL (s.cl c).lits x)) ∧ c < s.cls.length ∧
      (turnL (s.cl c).lits x).getD 1 0 = x ∧ (turnL (s.cl c).lits x).Perm (s.cl c).lits := by
  obtain ⟨hc, hx⟩ := h.wa.of x c (by rw [hw]; simp)
  obtain ⟨g1, g2, g3, g4⟩ := h.lt c hc
  unfold turnL
  by_cases e : (s.cl c).lits.getD 0 0 = x
  · rw [if_pos e]
    have hp := swp_perm (l := (s.cl c).lits) (i := 0) (j := 1) (by omega) (by omega)
    have a0 := swp_at (s.cl c).lits (i := 0) (j := 1) (by omega) (by omega) 0
    have a1 := swp_at (s.cl c).lits (i := 0) (j := 1) (by omega) (by omega) 1
    simp at a0 a1
    simp only [List.getD_eq_getElem?_getD] at e
    have c0 : (setL s c (swp (s.cl c).lits 0 1)).l0 c = s.l1 c := by unfold St.l0 St.l1; rw [cl_setL s hc]; simpa using a0
    have c1 : (setL s c (swp (s.cl c).lits 0 1)).l1 c = s.l0 c := by unfold St.l0 St.l1; rw [cl_setL s hc]; simpa using a1
    have cn : ∀ d, d ≠ c → (setL s c (swp (s.cl c).lits 0 1)).cl d = s.cl d := fun d hd => cl_setL_ne s hd _
    have cn0 : ∀ d, d ≠ c → (setL s c (swp (s.cl c).lits 0 1)).l0 d = s.l0 d := fun d hd => by unfold St.l0; rw [cn d hd]
    have cn1 : ∀ d, d ≠ c → (setL s c (swp (s.cl c).lits 0 1)).l1 d = s.l1 d := fun d hd => by unfold St.l1; rw [cn d hd]
    have cl : ((setL s c (swp (s.cl c).lits 0 1)).cl c).lits = swp (s.cl c).lits 0 1 := by rw [cl_setL s hc]
    have cg : ∀ d, ((setL s c (swp (s.cl c).lits 0 1)).cl d).gone = (s.cl d).gone := fun d => by
      by_cases e : d = c
      · subst e; rw [cl_setL s hc]
      · rw [cn d e]
    have cu : ∀ d, ((setL s c (swp (s.cl c).lits 0 1)).cl d).used = (s.cl d).used := fun d => by
      by_cases e : d = c
      · subst e; rw [cl_setL s hc]
      · rw [cn d e]
    have hl := len_setL s c (swp (s.cl c).lits 0 1)
    refine ⟨⟨(same_setL _ _ _).shp h.shp, ?_, ?_, ?_, ?_, h.ox, h.fx, h.lx, by simp⟩, hw, ⟨rfl, rfl, rfl, rfl, rfl, rfl, rfl, rfl, rfl, hl, fun d => ⟨cu d, cg d, ?_⟩, ⟨[], by simp [setL]⟩, Nat.le_refl _⟩, hc, ?_, hp⟩
    · intro d hd
      rw [hl] at hd
      by_cases e2 : d = c
      · subst e2
        rw [cl]
        exact ⟨by rw [hp.length_eq]; exact g1, hp.nodup_iff.2 g2, fun y hy => g3 y (hp.mem_iff.1 hy), hD _ _ hp.symm g4⟩
      · rw [cn d e2]; exact h.lt d hd
    · refine h.tr.cls rfl rfl rfl rfl rfl rfl rfl hl fun p z d hz hr => ?_
      by_cases e2 : d = c
      · subst e2
        have h9 := h.tr.re p z hz
        rw [hr] at h9
        have h8 := h9.2.1
        simp only [List.getD_eq_getElem?_getD] at h8
        rw [e] at h8
        subst h8
        exact (h.tr.not_both (List.mem_of_getElem? hz) h.fx).elim
      · rw [cn d e2]; exact ⟨rfl, fun y hy => hy⟩
    · refine ⟨h.wa.nd, fun y d hd => ?_, fun d hd hg => ?_⟩
      · obtain ⟨k1, k2⟩ := h.wa.of y d hd
        refine ⟨by rw [hl]; exact k1, ?_⟩
        by_cases e2 : d = c
        · subst e2; rw [c0, c1]; exact k2.symm
        · rw [cn0 d e2, cn1 d e2]; exact k2
      · rw [hl] at hd
        rw [cg] at hg
        by_cases e2 : d = c
        · subst e2
          rw [c0, c1]; exact (h.wa.at_ d hd hg).symm
        · rw [cn0 d e2, cn1 d e2]; exact h.wa.at_ d hd hg
    · intro d hd hg a b hab hP hn
      rw [hl] at hd
      rw [cg] at hg
      by_cases e2 : d = c
      · subst e2
        rw [c0, c1] at hab
        exact h.pr d hd hg a b hab.symm hP hn
      · rw [cn0 d e2, cn1 d e2] at hab
        exact h.pr d hd hg a b hab hP hn
    · by_cases e2 : d = c
      · subst e2; rw [cl]; exact hp
      · rw [cn d e2]
    · simpa using a1.trans e
  · rw [if_neg e, setL_self]
    refine ⟨h, hw, Ext.refl s, hc, ?_, List.Perm.refl _⟩
    rcases hx with hx | hx
    · exact (e hx.symm).elim
    · exact hx.symm
/-- a clause is looked at -/
theorem Mid.look (hD : Dcl D) (h : Mid U D s x (c :: r) none) (hw : s.wa x = kept ++ c :: r) (hg : (s.cl c).gone = false) :
    Mid U D (eff (lookS s c x).1 x (if (lookS s c x).2.1 then kept ++ r else kept ++ c :: r)) x r (if (lookS s c x).2.2 then none else some c) ∧ Ext s (lookS s c x).1 := by
  obtain ⟨h1, hw1, he, hc0, hx1, hpm⟩ := h.turn hD hw
  obtain ⟨L, hL⟩ : ∃ L, L = turnL (s.cl c).lits x := ⟨_, rfl⟩
  obtain ⟨t, ht⟩ : ∃ t, t = setL s c L := ⟨_, rfl⟩
  have hlt : (t.cl c).lits = L := by rw [ht, cl_setL s hc0]
  have hgt : (t.cl c).gone = false := by rw [ht, cl_setL s hc0]; exact hg
  have e0 : lookS s c x = if t.val (L.getD 0 0) = 1 then (t, false, true)
      else match findF t.value (L.drop 2) 2 with
        | some i => (pushW (setL t c (swp L 1 i)) ((swp L 1 i).getD 1 0) c, true, true)
        | none => if t.val (L.getD 0 0) = 2 then (t, false, false) else (setS t (L.getD 0 0) (some c), false, true) := by
    unfold lookS
    simp only
    rw [← hL, ← ht]
    have e1 : ∀ m, setL t c m = setL s c m := fun m => by rw [ht, setL_setL]
    have hv : t.value = s.value := by rw [ht]; rfl
    have hv2 : ∀ y, t.val y = s.val y := fun y => by rw [ht]; rfl
    simp only [hv, hv2]
    rfl
  rw [← hL] at h1 hw1 he hx1 hpm
  rw [← ht] at h1 hw1 he
  have hc : c < t.cls.length := by rw [he.len]; exact hc0
  clear ht hL h hw hg hc0
  obtain ⟨g1, g2, g3, g4⟩ := h1.lt c hc
  rw [hlt] at g1 g2 g3 g4
  obtain ⟨f, hf⟩ : ∃ f, f = L.getD 0 0 := ⟨_, rfl⟩
  have l0 : t.l0 c = f := by unfold St.l0; rw [hlt, hf]
  have l1 : t.l1 c = x := by unfold St.l1; rw [hlt, hx1]
  have hfL : f ∈ L := by rw [hf]; exact getD_mem (by omega)
  have hxL : x ∈ L := by rw [← hx1]; exact getD_mem (by omega)
  have hfo := g3 f hfL
  have hfx : f ≠ x := fun e => by
    have := nodup_getD g2 (i := 0) (j := 1) (by omega) (by omega) (by rw [hx1, ← hf]; exact e)
    omega
  have hxw : x < t.watch.length := by rw [h1.shp.wt]; exact h1.ox.2
  have hxt : x ∉ t.trail := fun e => h1.tr.not_both e h1.fx
  rw [← hf] at e0
  rw [e0]
  by_cases v1 : t.val f = 1
  · rw [if_pos v1]
    have hft := (h1.tr.val1 hfo).1 v1
    simp only [Bool.false_eq_true, if_false, if_true]
    rw [eff_self hw1]
    refine ⟨⟨h1.shp, h1.lt, h1.tr, h1.wa, ?_, h1.ox, h1.fx, h1.lx, by simp⟩, he⟩
    intro d hd hgd a b hab hP hn
    by_cases e : d = c
    · subst e
      rw [l0, l1] at hab
      rcases hab with ⟨rfl, rfl⟩ | ⟨rfl, rfl⟩
      · exact (h1.tr.not_both hft (List.mem_of_mem_take hn)).elim
      · refine ⟨hft, ?_⟩
        rw [h1.lx]
        obtain ⟨p, hp⟩ := List.mem_iff_getElem?.1 hft
        rw [h1.tr.le p _ hp]; exact lvl_le _ _
    · refine h1.pr d hd hgd a b hab (fun ⟨k1, k2⟩ => ?_) hn
      rcases k2 with k2 | k2
      · rcases List.mem_cons.1 k2 with k2 | k2
        · exact e k2
        · exact hP ⟨k1, .inl k2⟩
      · exact k2 rfl
  · rw [if_neg v1]
    cases hF : findF t.value (L.drop 2) 2 with
    | some i =>
      obtain ⟨i1, i2, i3⟩ := findF_some hF
      simp only [List.length_drop] at i2
      have hy0 : (L.drop 2).getD (i - 2) 0 = L.getD i 0 := by
        simp only [List.getD_eq_getElem?_getD, List.getElem?_drop]
        rw [show 2 + (i - 2) = i by omega]
      rw [hy0] at i3
      obtain ⟨y, hy⟩ : ∃ y, y = L.getD i 0 := ⟨_, rfl⟩
      rw [← hy] at i3
      have hil : i < L.length := by omega
      have hyL : y ∈ L := by rw [hy]; exact getD_mem hil
      have hyo := g3 y hyL
      have hyx : y ≠ x := fun e => by
        have := nodup_getD g2 (i := i) (j := 1) hil (by omega) (by rw [hx1, ← hy]; exact e)
        omega
      have hyf : y ≠ f := fun e => by
        have := nodup_getD g2 (i := i) (j := 0) hil (by omega) (by rw [← hf, ← hy]; exact e)
        omega
      have a0 := swp_at L (i := 1) (j := i) (by omega) hil 0
      have a1 := swp_at L (i := 1) (j := i) (by omega) hil 1
      rw [if_neg (by omega), if_neg (by omega), ← hf] at a0
      rw [if_neg (by omega), if_pos rfl, ← hy] at a1
      have hp := swp_perm (l := L) (i := 1) (j := i) (by omega) hil
      simp only [if_true]
      rw [a1]
      obtain ⟨M, hM⟩ : ∃ M, M = swp L 1 i := ⟨_, rfl⟩
      rw [← hM] at a0 a1 hp ⊢
      have cc : (setL t c M).cl c = { t.cl c with lits := M } := cl_setL t hc M
      have cn : ∀ d, d ≠ c → (setL t c M).cl d = t.cl d := fun d hd => cl_setL_ne t hd _
      have hyw : y < t.watch.length := by rw [h1.shp.wt]; exact hyo.2
      have hl := len_setL t c M
      obtain ⟨u, hu⟩ : ∃ u, u = eff (pushW (setL t c M) y c) x (kept ++ r) := ⟨_, rfl⟩
      have ucl : ∀ d, u.cl d = (setL t c M).cl d := fun d => by rw [hu]; rfl
      have uwa : ∀ z, u.wa z = if z = x then kept ++ r else if z = y then t.wa y ++ [c] else t.wa z := fun z => by
        rw [hu, wa_eff (by simpa [pushW, setL] using hxw)]
        by_cases e : z = x
        · rw [if_pos e, if_pos e]
        · rw [if_neg e, if_neg e, wa_push (by exact hyw)]
          rfl
      have ulen : u.cls.length = t.cls.length := by rw [hu]; exact hl
      have u0 : u.l0 c = f := by unfold St.l0; rw [ucl, cc]; exact a0
      have u1 : u.l1 c = y := by unfold St.l1; rw [ucl, cc]; exact a1
      have un0 : ∀ d, d ≠ c → u.l0 d = t.l0 d := fun d hd => by unfold St.l0; rw [ucl, cn d hd]
      have un1 : ∀ d, d ≠ c → u.l1 d = t.l1 d := fun d hd => by unfold St.l1; rw [ucl, cn d hd]
      have ug : ∀ d, (u.cl d).gone = (t.cl d).gone := fun d => by
        rw [ucl]
        by_cases e : d = c
        · subst e; rw [cc]
        · rw [cn d e]
      have uu : ∀ d, (u.cl d).used = (t.cl d).used := fun d => by
        rw [ucl]
        by_cases e : d = c
        · subst e; rw [cc]
        · rw [cn d e]
      have hcx := h1.wa.nd x
      rw [hw1] at hcx
      have hcr : c ∉ kept ++ r := by
        rw [List.nodup_append] at hcx
        obtain ⟨k1, k2, k3⟩ := hcx
        rw [List.nodup_cons] at k2
        intro hm
        rcases List.mem_append.1 hm with hm | hm
        · exact k3 c hm c (by simp) rfl
        · exact k2.1 hm
      have hcy : c ∉ t.wa y := fun hm => by
        rcases (h1.wa.of y c hm).2 with e | e
        · rw [l0] at e; exact hyf e
        · rw [l1] at e; exact hyx e
      have hex : Ext t (pushW (setL t c M) y c) := by
        refine ⟨rfl, rfl, rfl, rfl, rfl, rfl, rfl, rfl, rfl, hl, fun d => ⟨?_, ?_, ?_⟩, ⟨[], by simp [setL, pushW]⟩, Nat.le_refl _⟩
        · have := uu d; rw [ucl] at this; exact this
        · have := ug d; rw [ucl] at this; exact this
        · show ((setL t c M).cl d).lits.Perm _
          by_cases e : d = c
          · subst e; rw [cc, hlt]; exact hp
          · rw [cn d e]
      refine ⟨?_, he.trans hex⟩
      rw [← hu]
      refine ⟨?_, ?_, ?_, ⟨fun z => ?_, fun z d hd => ?_, fun d hd hgd => ?_⟩, ?_, by rw [hu]; exact h1.ox, by rw [hu]; exact h1.fx, by rw [hu]; exact h1.lx, by simp⟩
      · rw [hu]
        have : SameL t (eff (pushW (setL t c M) y c) x (kept ++ r)) := by unfold SameL eff pushW setL; simp
        exact this.shp h1.shp
      · intro d hd
        rw [ulen] at hd
        rw [ucl]
        by_cases e : d = c
        · subst e; rw [cc]
          exact ⟨by show 2 ≤ M.length; rw [hp.length_eq]; exact g1, hp.nodup_iff.2 g2, fun z hz => by rw [hu]; exact g3 z (hp.mem_iff.1 hz), hD _ _ hp.symm g4⟩
        · rw [cn d e]
          have := h1.lt d hd
          rw [hu]; exact this
      · rw [hu]
        refine h1.tr.cls rfl rfl rfl rfl rfl rfl rfl hl fun p z d hz hr => ?_
        show ((setL t c M).cl d).lits.getD 0 0 = _ ∧ _
        by_cases e : d = c
        · subst e
          have h9 := h1.tr.re p z hz
          rw [hr] at h9
          have h8 := h9.2.1
          rw [hlt, ← hf] at h8
          exact (v1 ((h1.tr.val1 hfo).2 (h8 ▸ List.mem_of_getElem? hz))).elim
        · have e2 : (eff (pushW (setL t c M) y c) x (kept ++ r)).cl d = t.cl d := cn d e
          rw [cn d e, e2]; exact ⟨rfl, fun y hy => hy⟩
      · rw [uwa]
        split
        · exact List.Nodup.sublist (by simp) hcx
        · split
          · rw [List.nodup_append]
            exact ⟨h1.wa.nd y, by simp, fun a ha b hb e => hcy (by simp at hb; rw [← hb, ← e]; exact ha)⟩
          · exact h1.wa.nd z
      · rw [uwa] at hd
        rw [ulen]
        split at hd
        · rename_i e
          have hne : d ≠ c := fun e2 => hcr (e2 ▸ hd)
          rw [un0 d hne, un1 d hne, e]
          refine h1.wa.of x d ?_
          rw [hw1]
          rcases List.mem_append.1 hd with k | k
          · exact List.mem_append_left _ k
          · exact List.mem_append_right _ (List.mem_cons_of_mem _ k)
        · split at hd
          · rename_i e
            rcases List.mem_append.1 hd with k | k
            · have hne : d ≠ c := fun e2 => hcy (e2 ▸ k)
              rw [un0 d hne, un1 d hne, e]
              exact h1.wa.of y d k
            · rw [List.mem_singleton.1 k, e]
              exact ⟨hc, .inr u1.symm⟩
          · rename_i e1 e2
            obtain ⟨k1, k2⟩ := h1.wa.of z d hd
            refine ⟨k1, ?_⟩
            by_cases e : d = c
            · subst e
              rw [l0, l1] at k2
              rcases k2 with k2 | k2
              · exact .inl (k2.trans u0.symm)
              · exact (e1 k2).elim
            · rw [un0 d e, un1 d e]; exact k2
      · rw [ulen] at hd
        rw [ug] at hgd
        by_cases e : d = c
        · subst e
          rw [u0, u1, uwa, uwa, if_neg hfx, if_neg (fun e => hyf e.symm), if_neg hyx, if_pos rfl]
          have := (h1.wa.at_ d hd hgd).1
          rw [l0] at this
          exact ⟨this, by simp⟩
        · rw [un0 d e, un1 d e]
          have key : ∀ z, d ∈ t.wa z → d ∈ u.wa z := fun z hz => by
            rw [uwa]
            split
            · rename_i e2
              rw [e2, hw1] at hz
              rcases List.mem_append.1 hz with k | k
              · exact List.mem_append_left _ k
              · rcases List.mem_cons.1 k with k | k
                · exact (e k).elim
                · exact List.mem_append_right _ k
            · split
              · rename_i e2
                rw [e2] at hz
                exact List.mem_append_left _ hz
              · exact hz
          exact ⟨key _ (h1.wa.at_ d hd hgd).1, key _ (h1.wa.at_ d hd hgd).2⟩
      · intro d hd hgd a b hab hP hn
        rw [ulen] at hd
        rw [ug] at hgd
        have hn' : nt a ∈ t.trail.take t.done := by rw [hu] at hn; exact hn
        have hgoal : (b ∈ t.trail ∧ t.lv b ≤ t.lv a) → (b ∈ u.trail ∧ u.lv b ≤ u.lv a) := fun k => by rw [hu]; exact k
        by_cases e : d = c
        · subst e
          rw [u0, u1] at hab
          rcases hab with ⟨rfl, rfl⟩ | ⟨rfl, rfl⟩
          · exact (hxt (h1.pr d hd hgd a x (.inl ⟨l0.symm, l1.symm⟩) (fun k => hfx k.1) hn').1).elim
          · exact (i3 ((h1.tr.val2 hyo).2 (List.mem_of_mem_take hn'))).elim
        · rw [un0 d e, un1 d e] at hab
          refine hgoal (h1.pr d hd hgd a b hab (fun ⟨k1, k2⟩ => ?_) hn')
          rcases k2 with k2 | k2
          · rcases List.mem_cons.1 k2 with k2 | k2
            · exact e k2
            · exact hP ⟨k1, .inl k2⟩
          · exact k2 rfl
    | none =>
      have hall := findF_none hF
      have hrest : ∀ z ∈ L, z ≠ f → nt z ∈ t.trail := fun z hz hne => by
        by_cases e : z = x
        · rw [e]; exact h1.fx
        · obtain ⟨k, hk, rfl⟩ := List.mem_iff_getElem.1 hz
          have k0 : k ≠ 0 := fun e => hne (by subst e; rw [hf, List.getD_eq_getElem?_getD, List.getElem?_eq_getElem hk]; rfl)
          have k1 : k ≠ 1 := fun e2 => e (by subst e2; rw [← hx1, List.getD_eq_getElem?_getD, List.getElem?_eq_getElem hk]; rfl)
          refine (h1.tr.val2 (g3 _ hz)).1 (hall _ ?_)
          rw [List.mem_iff_getElem]
          refine ⟨k - 2, by simp; omega, ?_⟩
          rw [List.getElem_drop]
          congr 1; omega
      by_cases v2 : t.val f = 2
      · simp only [if_pos v2, Bool.false_eq_true, if_false]
        rw [eff_self hw1]
        refine ⟨⟨h1.shp, h1.lt, h1.tr, h1.wa, ?_, h1.ox, h1.fx, h1.lx, ?_⟩, he⟩
        · intro d hd hgd a b hab hP hn
          exact h1.pr d hd hgd a b hab (fun k => hP ⟨k.1, .inr (by simp)⟩) hn
        · intro b hb
          cases hb
          refine ⟨hc, fun y hy => ?_, by rw [hlt]; exact hxL⟩
          rw [hlt] at hy
          by_cases e : y = f
          · rw [e]; exact (h1.tr.val2 hfo).1 v2
          · exact hrest y hy e
      · simp only [if_neg v2, Bool.false_eq_true, if_false, if_true]
        have v0 : t.val f = 0 := by have := h1.tr.val_le hfo; omega
        obtain ⟨n1, n2⟩ := (h1.tr.val0 hfo).1 v0
        have hset : Tr U (setS t f (some c)) := h1.tr.set h1.shp hfo v0 h1.tr.en (fun e he => ⟨Nat.le_of_lt (h1.tr.el e he).1, (h1.tr.el e he).2⟩) (fun _ _ => rfl) (fun _ h => h)
          ⟨hc, by rw [hlt, ← hf], fun y hy hne => hrest y (hlt ▸ hy) hne⟩
        have hwx : (setS t f (some c)).wa x = kept ++ c :: r := hw1
        have hnv : ∀ z, (z ∈ t.trail ∨ nt z ∈ t.trail) → z / 2 ≠ f / 2 := fun z hz e => by
          rcases half_eq e with e | e
          · subst e; exact hz.elim n1 n2
          · subst e
            rw [nt_nt] at hz
            exact hz.elim n2 n1
        have hlv : ∀ z, (z ∈ t.trail ∨ nt z ∈ t.trail) → (setS t f (some c)).lv z = t.lv z := fun z hz => by
          unfold St.lv setS
          simp only [List.getD_eq_getElem?_getD]
          rw [List.getElem?_set_ne (fun e => hnv z hz e.symm)]
        have hex : Ext t (setS t f (some c)) := ⟨rfl, rfl, rfl, rfl, rfl, rfl, rfl, rfl, rfl, rfl, fun _ => ⟨rfl, rfl, List.Perm.refl _⟩, ⟨[f], rfl⟩, Nat.le_refl _⟩
        rw [eff_self hwx]
        have hsub : ∀ z, z ∈ t.trail → z ∈ (setS t f (some c)).trail := fun z hz => List.mem_append_left _ hz
        refine ⟨⟨(same_set _ _ _).shp h1.shp, h1.lt, hset, ⟨h1.wa.nd, h1.wa.of, h1.wa.at_⟩, ?_, h1.ox, hsub _ h1.fx, ?_, by simp⟩, he.trans hex⟩
        · intro d hd hgd a b hab hP hn
          have hn' : nt a ∈ t.trail.take t.done := by
            have e : (setS t f (some c)).trail.take (setS t f (some c)).done = t.trail.take t.done := by
              show (t.trail ++ [f]).take t.done = _
              rw [List.take_append_of_le_length h1.tr.dn]
            rw [e] at hn; exact hn
          have hna : nt a ∈ t.trail := List.mem_of_mem_take hn'
          by_cases e : d = c ∧ a = x
          · obtain ⟨rfl, rfl⟩ := e
            have hab2 : a = t.l0 d ∧ b = t.l1 d ∨ a = t.l1 d ∧ b = t.l0 d := hab
            rw [l0, l1] at hab2
            have hbf : b = f := by
              rcases hab2 with ⟨k1, k2⟩ | ⟨k1, k2⟩
              · exact (hfx k1.symm).elim
              · exact k2
            rw [hbf]
            refine ⟨by show f ∈ t.trail ++ [f]; simp, ?_⟩
            rw [hlv a (.inr hna), h1.lx]
            rw [hset.le t.trail.length f (show (t.trail ++ [f])[t.trail.length]? = some f by simp)]
            exact lvl_le _ _
          · obtain ⟨k1, k2⟩ := h1.pr d hd hgd a b hab (fun ⟨q1, q2⟩ => by
              rcases q2 with q2 | q2
              · rcases List.mem_cons.1 q2 with q2 | q2
                · exact e ⟨q2, q1⟩
                · exact hP ⟨q1, .inl q2⟩
              · exact q2 rfl) hn'
            exact ⟨hsub _ k1, by rw [hlv b (.inl k1), hlv a (.inr hna)]; exact k2⟩
        · rw [hlv x (.inr h1.fx)]; exact h1.lx
end
end Go.Proofs.Ytcebafeaikipmaa.S15

namespace Go.Proofs.Ytcebafeaikipmaa.S15

theorem eff_eff (s : St) (x : Nat) (l m : List Nat) : eff (eff s x l) x m = eff s x m := by unfold eff; simp
theorem turnL_len (l : List Nat) (x : Nat) : (turnL l x).length = l.length := by unfold turnL swp; split <;> simp
theorem lookS_eff {s : St} {x : Nat} (hv : s.val x = 2) (l : List Nat) (c : Nat) : lookS (eff s x l) c x = (eff (lookS s c x).1 x l, (lookS s c x).2) := by
  unfold lookS
  have e0 : (eff s x l).cl c = s.cl c := rfl
  have e1 : ∀ m, setL (eff s x l) c m = eff (setL s c m) x l := fun _ => rfl
  have e2 : ∀ y m, (setL (eff s x l) c m).val y = (setL s c m).val y := fun _ _ => rfl
  simp only [e0]
  split
  · rename_i h; rw [e1] at h ⊢; rw [if_pos (by exact h)]
  · rename_i h
    rw [if_neg (show ¬ (setL s c (turnL (s.cl c).lits x)).val ((turnL (s.cl c).lits x).getD 0 0) = 1 from h)]
    have e3 : (setL (eff s x l) c (turnL (s.cl c).lits x)).value = (setL s c (turnL (s.cl c).lits x)).value := rfl
    rw [e3]
    cases hF : findF (setL s c (turnL (s.cl c).lits x)).value ((turnL (s.cl c).lits x).drop 2) 2 with
    | some i =>
      simp only
      obtain ⟨i1, i2, i3⟩ := findF_some hF
      simp only [List.length_drop] at i2
      have hy0 : ((turnL (s.cl c).lits x).drop 2).getD (i - 2) 0 = (turnL (s.cl c).lits x).getD i 0 := by
        simp only [List.getD_eq_getElem?_getD, List.getElem?_drop]
        rw [show 2 + (i - 2) = i by omega]
      rw [hy0] at i3
      have a1 := swp_at (turnL (s.cl c).lits x) (i := 1) (j := i) (by omega) (by omega) 1
      rw [if_neg (by omega), if_pos rfl] at a1
      rw [a1]
      have hne : (turnL (s.cl c).lits x).getD i 0 ≠ x := fun e => i3 (by rw [e]; exact hv)
      obtain ⟨y, hy⟩ : ∃ y, y = (turnL (s.cl c).lits x).getD i 0 := ⟨_, rfl⟩
      rw [← hy] at hne ⊢
      have : ∀ q : St, pushW (eff q x l) y c = eff (pushW q y c) x l := fun q => by
        unfold pushW eff
        simp only [List.getD_eq_getElem?_getD]
        rw [List.getElem?_set_ne (fun e => hne e.symm), List.set_comm _ _ (fun e => hne e.symm)]
      have e4 : setL (setL (eff s x l) c (turnL (s.cl c).lits x)) c (swp (turnL (s.cl c).lits x) 1 i) = eff (setL (setL s c (turnL (s.cl c).lits x)) c (swp (turnL (s.cl c).lits x) 1 i)) x l := rfl
      rw [e4, this]
    | none =>
      simp only
      split
      · rename_i h2; rw [if_pos (by exact h2)]; rfl
      · rename_i h2; rw [if_neg (show ¬ (setL s c (turnL (s.cl c).lits x)).val ((turnL (s.cl c).lits x).getD 0 0) = 2 from h2)]; rfl
structure UI (U : Nat → Prop) (D : List Nat → Prop) (s : St) (P : Nat → Nat → Prop) : Prop where
  shp : Shp s
  lt : Lt3 D s
  tr : Tr U s
  wa : Wa s
  pr : Prp s P
section
variable {U : Nat → Prop} {D : List Nat → Prop}
theorem Ext.of_eff {s s' : St} {x : Nat} {l m : List Nat} (h : Ext (eff s x l) (eff s' x m)) : Ext s s' := ⟨h.vars, h.ends, h.proof, h.learned, h.clauses, h.act, h.step, h.phase, h.seen, h.len, h.cl, h.tr, h.dn⟩
theorem Mid.vx {s : St} {x : Nat} {r : List Nat} {bad : Option Nat} (h : Mid U D s x r bad) : s.val x = 2 := (h.tr.val2 h.ox).2 h.fx
theorem Mid.wlen {s : St} {x : Nat} {r : List Nat} {bad : Option Nat} (h : Mid U D s x r bad) (y : Nat) : (s.wa y).length ≤ s.cls.length := nodup_le' (h.wa.nd y) fun c hc => (h.wa.of y c hc).1
/-- one clause of the watches: what a round of the inner loop does -/
theorem Mid.step_gone {s : St} {x c : Nat} {r kept : List Nat} {bad : Option Nat} (h : Mid U D (eff s x (kept ++ c :: r)) x (c :: r) bad) (hg : (s.cl c).gone = true) : Mid U D (eff s x (kept ++ r)) x r bad := by
  have hxw : x < s.watch.length := by have h1 := h.shp.wt; have h2 := h.ox.2; unfold eff at h1 h2; simp at h1 h2; omega
  have hsub : ∀ z, ((eff s x (kept ++ r)).wa z).Sublist ((eff s x (kept ++ c :: r)).wa z) := fun z => by
    rw [wa_eff hxw, wa_eff hxw]
    split
    · simp
    · exact List.Sublist.refl _
  refine ⟨?_, h.lt, ?_, ⟨fun z => (h.wa.nd z).sublist (hsub z), fun z d hd => h.wa.of z d ((hsub z).mem hd), fun d hd hgd => ?_⟩, ?_, h.ox, h.fx, h.lx, h.bd⟩
  · have : SameL (eff s x (kept ++ c :: r)) (eff s x (kept ++ r)) := by unfold SameL eff; simp
    exact this.shp h.shp
  · exact h.tr.cls rfl rfl rfl rfl rfl rfl rfl rfl fun p z d _ _ => ⟨rfl, fun y hy => hy⟩
  · have hne : d ≠ c := fun e => by
      subst e
      have : (s.cl d).gone = false := hgd
      rw [hg] at this; cases this
    have key : ∀ z, d ∈ (eff s x (kept ++ c :: r)).wa z → d ∈ (eff s x (kept ++ r)).wa z := fun z hz => by
      rw [wa_eff hxw] at hz ⊢
      split at hz
      · rename_i e
        rw [if_pos e]
        rcases List.mem_append.1 hz with k | k
        · exact List.mem_append_left _ k
        · rcases List.mem_cons.1 k with k | k
          · exact (hne k).elim
          · exact List.mem_append_right _ k
      · rename_i e
        rw [if_neg e]; exact hz
    exact ⟨key _ (h.wa.at_ d hd hgd).1, key _ (h.wa.at_ d hd hgd).2⟩
  · intro d hd hgd a b hab hP hn
    refine h.pr d hd hgd a b hab (fun ⟨k1, k2⟩ => hP ⟨k1, ?_⟩) hn
    rcases k2 with k2 | k2
    · rcases List.mem_cons.1 k2 with k2 | k2
      · subst k2
        have : (s.cl d).gone = false := hgd
        rw [hg] at this; cases this
      · exact .inl k2
    · exact .inr k2
theorem Mid.step_bad {s : St} {x c : Nat} {r kept : List Nat} {b : Nat} (h : Mid U D (eff s x (kept ++ c :: r)) x (c :: r) (some b)) : Mid U D (eff s x ((kept ++ [c]) ++ r)) x r (some b) := by
  rw [List.append_assoc]
  exact ⟨h.shp, h.lt, h.tr, h.wa, fun d hd hgd a b' hab hP hn => h.pr d hd hgd a b' hab (fun k => hP ⟨k.1, .inr (by simp)⟩) hn, h.ox, h.fx, h.lx, h.bd⟩
theorem Mid.step_look (hD : Dcl D) {s : St} {x c : Nat} {r kept : List Nat} (h : Mid U D (eff s x (kept ++ c :: r)) x (c :: r) none) (hg : (s.cl c).gone = false) :
    Mid U D (eff (lookS s c x).1 x ((if (lookS s c x).2.1 then kept else kept ++ [c]) ++ r)) x r (if (lookS s c x).2.2 then none else some c) ∧ Ext s (lookS s c x).1 := by
  have hxw : x < s.watch.length := by have h1 := h.shp.wt; have h2 := h.ox.2; unfold eff at h1 h2; simp at h1 h2; omega
  have hw : (eff s x (kept ++ c :: r)).wa x = kept ++ c :: r := by rw [wa_eff hxw, if_pos rfl]
  obtain ⟨h1, h2⟩ := h.look hD hw hg
  have hv : s.val x = 2 := h.vx
  rw [lookS_eff hv] at h1 h2
  simp only at h1 h2
  rw [eff_eff] at h1
  refine ⟨?_, h2.of_eff⟩
  cases hm : (lookS s c x).2.1 with
  | true => rw [hm] at h1; exact h1
  | false =>
    rw [hm] at h1
    simp only [Bool.false_eq_true, if_false] at h1 ⊢
    rw [List.append_assoc]; exact h1
theorem inner_mid (hD : Dcl D) {x : Nat} : ∀ (r : List Nat) (s : St) (kept : List Nat) (bad : Option Nat), Mid U D (eff s x (kept ++ r)) x r bad →
    Mid U D (eff (innerS x r s kept bad).1 x (innerS x r s kept bad).2.1) x [] (innerS x r s kept bad).2.2 ∧ Ext s (innerS x r s kept bad).1
  | [], s, kept, bad, h => by
    unfold innerS
    rw [List.append_nil] at h
    exact ⟨h, Ext.refl s⟩
  | c :: r, s, kept, bad, h => by
    unfold innerS
    split
    · rename_i hg
      exact inner_mid hD r s kept bad (h.step_gone hg)
    · rename_i hg
      have hg : (s.cl c).gone = false := by cases hb : (s.cl c).gone <;> simp_all
      cases bad with
      | some b => exact inner_mid hD r s (kept ++ [c]) (some b) h.step_bad
      | none =>
        obtain ⟨h1, h2⟩ := h.step_look hD hg
        simp only
        obtain ⟨h3, h4⟩ := inner_mid hD r _ _ _ h1
        exact ⟨h3, h2.trans h4⟩
/-- the next literal of the trail -/
def nextS (s : St) : St := { s with done := s.done + 1 }
theorem UI.start {s : St} (h : UI U D s fun _ _ => False) (hd : s.done < s.trail.length) : Mid U D (nextS s) (nt (s.trail.getD s.done 0)) (s.wa (nt (s.trail.getD s.done 0))) none := by
  obtain ⟨z, hz⟩ : ∃ z, s.trail[s.done]? = some z := ⟨_, List.getElem?_eq_getElem hd⟩
  have e : s.trail.getD s.done 0 = z := by rw [List.getD_eq_getElem?_getD, hz]; rfl
  rw [e]
  have hzm : z ∈ s.trail := List.mem_of_getElem? hz
  refine ⟨⟨h.shp.va, h.shp.wt, h.shp.le, h.shp.re, h.shp.ph, h.shp.ac, h.shp.se, h.shp.sm⟩, h.lt, ⟨h.tr.ok, h.tr.nd, h.tr.vl, hd, h.tr.en, fun e he => ⟨(h.tr.el e he).1, Nat.le_succ_of_le (h.tr.el e he).2⟩, h.tr.le, fun p y hy => ?_⟩, ⟨h.wa.nd, h.wa.of, h.wa.at_⟩, ?_, okL_nt (h.tr.ok z hzm), by rw [nt_nt]; exact hzm, ?_, by simp⟩
  · have := h.tr.re p y hy
    show ReOk U (nextS s) p y (s.reason.getD (y / 2) none)
    cases hr : s.reason.getD (y / 2) none with
    | none => rw [hr] at this; exact this
    | some c => rw [hr] at this; exact this
  · intro c hc hg a b hab hP hn
    have hn' : nt a ∈ s.trail.take (s.done + 1) := hn
    rw [List.take_add_one, hz] at hn'
    rcases List.mem_append.1 hn' with k | k
    · exact h.pr c hc hg a b hab id k
    · have ea : a = nt z := by
        have : nt a = z := by simpa using k
        rw [← this, nt_nt]
      refine (hP ⟨ea, .inl ?_⟩).elim
      rw [← ea]
      rcases hab with k | k
      · rw [k.1]; exact (h.wa.at_ c hc hg).1
      · rw [k.1]; exact (h.wa.at_ c hc hg).2
  · rw [lv_nt]
    have := h.tr.le s.done z hz
    show s.lv z = s.ends.length
    rw [this, lvl_top fun e he => (h.tr.el e he).2]
/-- what is left when units found a clause that is false -/
structure Conf (U : Nat → Prop) (D : List Nat → Prop) (s : St) (c : Nat) : Prop where
  ui : UI U D s fun _ a => s.lv a = s.ends.length
  lt : c < s.cls.length
  no : ∀ y ∈ (s.cl c).lits, nt y ∈ s.trail
  top : ∃ y ∈ (s.cl c).lits, s.lv y = s.ends.length
theorem Mid.fin {s : St} {x : Nat} (h : Mid U D s x [] none) : UI U D s fun _ _ => False :=
  ⟨h.shp, h.lt, h.tr, h.wa, fun d hd hg a b hab _ hn => h.pr d hd hg a b hab (fun k => k.2.elim (by simp) (by simp)) hn⟩
theorem Mid.conf {s : St} {x b : Nat} (h : Mid U D s x [] (some b)) : Conf U D s b :=
  ⟨⟨h.shp, h.lt, h.tr, h.wa, fun d hd hg a b' hab hP hn => h.pr d hd hg a b' hab (fun k => hP (by rw [k.1]; exact h.lx)) hn⟩, (h.bd b rfl).1, (h.bd b rfl).2.1, x, (h.bd b rfl).2.2, h.lx⟩
def UFin (U : Nat → Prop) (D : List Nat → Prop) (s : St) : Option Nat → Prop
  | none => UI U D s (fun _ _ => False) ∧ s.done = s.trail.length
  | some c => Conf U D s c
/-- a literal of the trail is gone through -/
def unitS1 (s : St) : St × List Nat × Option Nat := innerS (nt (s.trail.getD s.done 0)) (s.wa (nt (s.trail.getD s.done 0))) (nextS s) [] none
theorem unitsS_go {s : St} (f : Nat) (hd : s.done < s.trail.length) : unitsS (f + 1) s = match (unitS1 s).2.2 with
    | some b => (eff (unitS1 s).1 (nt (s.trail.getD s.done 0)) (unitS1 s).2.1, some b)
    | none => unitsS f (eff (unitS1 s).1 (nt (s.trail.getD s.done 0)) (unitS1 s).2.1) := by
  rw [unitsS, if_pos hd]
  have e : innerS (nt (s.trail.getD s.done 0)) (s.watch.getD (nt (s.trail.getD s.done 0)) []) { s with done := s.done + 1 } [] none = unitS1 s := rfl
  rw [e]
  obtain ⟨q1, q2, q3⟩ := unitS1 s
  cases q3 <;> rfl
theorem unitsS_end {s : St} (f : Nat) (hd : ¬ s.done < s.trail.length) : unitsS (f + 1) s = (s, none) := by
  rw [unitsS, if_neg hd]
theorem UI.unit1 (hD : Dcl D) {s : St} (h : UI U D s fun _ _ => False) (hd : s.done < s.trail.length) :
    Mid U D (eff (unitS1 s).1 (nt (s.trail.getD s.done 0)) (unitS1 s).2.1) (nt (s.trail.getD s.done 0)) [] (unitS1 s).2.2 ∧ Ext s (eff (unitS1 s).1 (nt (s.trail.getD s.done 0)) (unitS1 s).2.1) ∧ s.done + 1 ≤ (unitS1 s).1.done := by
  have hm := h.start hd
  have hm2 : Mid U D (eff (nextS s) (nt (s.trail.getD s.done 0)) ([] ++ s.wa (nt (s.trail.getD s.done 0)))) (nt (s.trail.getD s.done 0)) (s.wa (nt (s.trail.getD s.done 0))) none := by
    rw [List.nil_append, eff_self (show (nextS s).wa (nt (s.trail.getD s.done 0)) = s.wa (nt (s.trail.getD s.done 0)) from rfl)]; exact hm
  obtain ⟨h1, h2⟩ := inner_mid hD _ _ _ _ hm2
  have h0 : Ext s (nextS s) := ⟨rfl, rfl, rfl, rfl, rfl, rfl, rfl, rfl, rfl, rfl, fun _ => ⟨rfl, rfl, List.Perm.refl _⟩, ⟨[], by simp [nextS]⟩, Nat.le_succ _⟩
  exact ⟨h1, (h0.trans h2).trans (ext_eff _ _ _), h2.dn⟩
theorem units_inv (hD : Dcl D) : ∀ (f : Nat) (s : St), UI U D s (fun _ _ => False) → s.vars + 1 ≤ f + s.done → UFin U D (unitsS f s).1 (unitsS f s).2 ∧ Ext s (unitsS f s).1
  | 0, s, h, hf => by have h1 := h.tr.dn; have h2 := h.tr.len; omega
  | f + 1, s, h, hf => by
    by_cases hd : s.done < s.trail.length
    · rw [unitsS_go f hd]
      obtain ⟨h1, h2, h3⟩ := h.unit1 hD hd
      cases hb : (unitS1 s).2.2 with
      | some b => rw [hb] at h1; exact ⟨h1.conf, h2⟩
      | none =>
        rw [hb] at h1
        obtain ⟨h4, h5⟩ := units_inv hD f _ h1.fin (by
          have e4 := h2.vars
          have e5 : (eff (unitS1 s).1 (nt (s.trail.getD s.done 0)) (unitS1 s).2.1).done = (unitS1 s).1.done := rfl
          rw [e4, e5]; omega)
        exact ⟨h4, h2.trans h5⟩
    · rw [unitsS_end f hd]
      exact ⟨⟨h, by have := h.tr.dn; show s.done = s.trail.length; omega⟩, Ext.refl s⟩
end
end Go.Proofs.Ytcebafeaikipmaa.S15

namespace Go.Proofs.Ytcebafeaikipmaa.S15

def St.sn (s : St) (v : Nat) : Bool := s.seen.getD v false
structure Av (s : St) : Prop where
  ac : ∀ a ∈ s.act, a < 1099511627776
  st : s.step < 2199023255552
theorem Av.meet {s : St} (h : Av s) (v : Nat) : Av (meetS s v) ∧ (meetS s v).step < 1099511627776 := by
  have hy : s.act.getD v 0 < 1099511627776 := by
    rw [List.getD_eq_getElem?_getD]
    by_cases hv : v < s.act.length
    · rw [List.getElem?_eq_getElem hv]; exact h.ac _ (List.getElem_mem hv)
    · rw [List.getElem?_eq_none (by omega)]; simp
  have hs := h.st
  unfold meetS
  split
  · rename_i hlt
    refine ⟨⟨fun a ha => ?_, h.st⟩, by show s.step < _; omega⟩
    rcases List.mem_or_eq_of_mem_set ha with k | k
    · exact h.ac a k
    · rw [k]; exact hlt
  · refine ⟨⟨fun a ha => ?_, by show max 16 (s.step / 1048576) < _; omega⟩, by show max 16 (s.step / 1048576) < _; omega⟩
    obtain ⟨b, hb, rfl⟩ := List.mem_map.1 ha
    have : b < 3298534883328 := by
      rcases List.mem_or_eq_of_mem_set hb with k | k
      · have := h.ac b k; omega
      · omega
    omega
/-- what stays while a clause is learned; bumps: k at most -/
structure Lf (s0 s : St) (k : Nat) : Prop where
  vars : s.vars = s0.vars
  clauses : s.clauses = s0.clauses
  learned : s.learned = s0.learned
  watch : s.watch = s0.watch
  value : s.value = s0.value
  level : s.level = s0.level
  reason : s.reason = s0.reason
  phase : s.phase = s0.phase
  trail : s.trail = s0.trail
  ends : s.ends = s0.ends
  done : s.done = s0.done
  proof : s.proof = s0.proof
  len : s.cls.length = s0.cls.length
  act : s.act.length = s0.act.length
  seen : s.seen.length = s0.seen.length
  cl : ∀ c, (s.cl c).lits = (s0.cl c).lits ∧ (s.cl c).gone = (s0.cl c).gone ∧ (s0.cl c).used ≤ (s.cl c).used ∧ (s.cl c).used ≤ (s0.cl c).used + k
  ng : ∀ c, (s0.cl c).used < 0 → (s.cl c).used = (s0.cl c).used
theorem Lf.refl (s : St) : Lf s s 0 := ⟨rfl, rfl, rfl, rfl, rfl, rfl, rfl, rfl, rfl, rfl, rfl, rfl, rfl, rfl, rfl, fun _ => ⟨rfl, rfl, Int.le_refl _, by omega⟩, fun _ _ => rfl⟩
theorem Lf.trans {a b c : St} {i j : Nat} (h : Lf a b i) (k : Lf b c j) : Lf a c (i + j) :=
  ⟨k.vars.trans h.vars, k.clauses.trans h.clauses, k.learned.trans h.learned, k.watch.trans h.watch, k.value.trans h.value, k.level.trans h.level, k.reason.trans h.reason, k.phase.trans h.phase, k.trail.trans h.trail, k.ends.trans h.ends, k.done.trans h.done, k.proof.trans h.proof, k.len.trans h.len, k.act.trans h.act, k.seen.trans h.seen,
   fun c => ⟨(k.cl c).1.trans (h.cl c).1, (k.cl c).2.1.trans (h.cl c).2.1, Int.le_trans (h.cl c).2.2.1 (k.cl c).2.2.1, by have := (k.cl c).2.2.2; have := (h.cl c).2.2.2; omega⟩, fun c hc => by have h1 := h.ng c hc; exact (k.ng c (by rw [h1]; exact hc)).trans h1⟩
theorem Lf.lv {a b : St} {i : Nat} (h : Lf a b i) (x : Nat) : b.lv x = a.lv x := by unfold St.lv; rw [h.level]
theorem Lf.val {a b : St} {i : Nat} (h : Lf a b i) (x : Nat) : b.val x = a.val x := by unfold St.val; rw [h.value]
theorem lf_meet (s : St) (v : Nat) : Lf s (meetS s v) 0 := by
  unfold meetS
  split
  · exact ⟨rfl, rfl, rfl, rfl, rfl, rfl, rfl, rfl, rfl, rfl, rfl, rfl, rfl, by simp, rfl, fun _ => ⟨rfl, rfl, Int.le_refl _, by show (s.cl _).used ≤ _; omega⟩, fun _ _ => rfl⟩
  · exact ⟨rfl, rfl, rfl, rfl, rfl, rfl, rfl, rfl, rfl, rfl, rfl, rfl, rfl, by simp, rfl, fun _ => ⟨rfl, rfl, Int.le_refl _, by show (s.cl _).used ≤ _; omega⟩, fun _ _ => rfl⟩
def seeS (s : St) (v : Nat) (b : Bool) : St := { s with seen := s.seen.set v b }
theorem lf_see (s : St) (v : Nat) (b : Bool) : Lf s (seeS s v b) 0 :=
  ⟨rfl, rfl, rfl, rfl, rfl, rfl, rfl, rfl, rfl, rfl, rfl, rfl, rfl, rfl, by simp [seeS], fun _ => ⟨rfl, rfl, Int.le_refl _, by show (s.cl _).used ≤ _; omega⟩, fun _ _ => rfl⟩
theorem cl_bump (s : St) (c d : Nat) : ((bumpS s c).cl d).lits = (s.cl d).lits ∧ ((bumpS s c).cl d).gone = (s.cl d).gone ∧ (s.cl d).used ≤ ((bumpS s c).cl d).used ∧ ((bumpS s c).cl d).used ≤ (s.cl d).used + 1 := by
  unfold bumpS
  split
  · unfold St.cl
    simp only [List.getD_eq_getElem?_getD]
    by_cases e : c = d
    · subst e
      by_cases hc : c < s.cls.length
      · rw [List.getElem?_set_self hc, List.getElem?_eq_getElem hc]
        simp; omega
      · rw [List.getElem?_eq_none (by simp; omega), List.getElem?_eq_none (by omega)]
        simp
    · rw [List.getElem?_set_ne e]
      exact ⟨rfl, rfl, Int.le_refl _, by omega⟩
  · exact ⟨rfl, rfl, Int.le_refl _, by omega⟩
theorem ng_bump (s : St) (c d : Nat) (h : (s.cl d).used < 0) : ((bumpS s c).cl d).used = (s.cl d).used := by
  unfold bumpS
  split
  · rename_i h0
    unfold St.cl at h h0 ⊢
    simp only [List.getD_eq_getElem?_getD] at h h0 ⊢
    have e : c ≠ d := fun e => by subst e; omega
    rw [List.getElem?_set_ne e]
  · rfl
theorem lf_bump (s : St) (c : Nat) : Lf s (bumpS s c) 1 := by
  have hb := cl_bump s c
  have hn := ng_bump s c
  unfold bumpS at hb hn ⊢
  split
  · rename_i h
    rw [if_pos h] at hb hn
    exact ⟨rfl, rfl, rfl, rfl, rfl, rfl, rfl, rfl, rfl, rfl, rfl, rfl, by simp, rfl, rfl, hb, hn⟩
  · exact ⟨rfl, rfl, rfl, rfl, rfl, rfl, rfl, rfl, rfl, rfl, rfl, rfl, rfl, rfl, rfl, fun _ => ⟨rfl, rfl, Int.le_refl _, by omega⟩, fun _ _ => rfl⟩
theorem sn_see {s : St} {v : Nat} {b : Bool} (hv : v < s.seen.length) (u : Nat) : (seeS s v b).sn u = if u = v then b else s.sn u := by
  unfold seeS St.sn
  simp only [List.getD_eq_getElem?_getD]
  by_cases e : u = v
  · subst e; rw [if_pos rfl, List.getElem?_set_self hv]; rfl
  · rw [if_neg e, List.getElem?_set_ne (fun e2 => e e2.symm)]
theorem sn_meet (s : St) (v u : Nat) : (meetS s v).sn u = s.sn u := by unfold meetS; split <;> rfl
theorem sn_bump (s : St) (c u : Nat) : (bumpS s c).sn u = s.sn u := by unfold bumpS; split <;> rfl
/-- one element of a list without doubles is counted more -/
theorem countP_one {p q : Nat → Bool} : ∀ {l : List Nat} {z : Nat}, l.Nodup → z ∈ l → p z = false → q z = true → (∀ y ∈ l, y ≠ z → q y = p y) → l.countP q = l.countP p + 1
  | [], _, _, hz, _, _, _ => by cases hz
  | x :: l, z, hd, hz, hp, hq, h => by
    rw [List.nodup_cons] at hd
    rw [List.countP_cons, List.countP_cons]
    by_cases e : x = z
    · subst e
      have : l.countP q = l.countP p := List.countP_congr fun y hy => by rw [h y (List.mem_cons_of_mem _ hy) (fun e => hd.1 (e ▸ hy))]
      rw [this, hp, hq]; simp
    · have hz2 : z ∈ l := (List.mem_cons.1 hz).elim (fun k => (e k.symm).elim) id
      rw [countP_one hd.2 hz2 hp hq fun y hy => h y (List.mem_cons_of_mem _ hy), h x (List.mem_cons_self ..) e]
      omega
/-- a set that unit propagation adds nothing to, and that is not contrary to itself -/
structure Yc (s : St) (Y : Nat → Prop) : Prop where
  ne : ∀ c, c < s.cls.length → ∃ y ∈ (s.cl c).lits, ¬ Y (nt y)
  un : ∀ c, c < s.cls.length → ∀ x ∈ (s.cl c).lits, (∀ y ∈ (s.cl c).lits, y ≠ x → Y (nt y)) → Y x
  z0 : ∀ z ∈ s.trail, s.lv z = 0 → Y z
/-- how far the learning is, ahead of clause c -/
structure Lw (s0 s : St) (at_ : Nat) (opn : Nat) (out : List Nat) (k : Nat) : Prop where
  fr : Lf s0 s k
  av : Av s
  sv : ∀ v, s.sn v = true → ∃ z ∈ s0.trail, z / 2 = v ∧ 1 ≤ s0.lv z ∧ (s0.lv z = s0.ends.length → z ∈ s0.trail.take at_)
  st : ∀ v, s.sn v = true → s.step < 1099511627776
  op : opn = (s0.trail.take at_).countP fun z => s.sn (z / 2) && (s0.lv z == s0.ends.length)
  hd : ∃ tl, out = 0 :: tl ∧ (tl.map (· / 2)).Nodup ∧ (∀ y ∈ tl, s.sn (y / 2) = true ∧ nt y ∈ s0.trail ∧ s0.lv y < s0.ends.length) ∧ ∀ z ∈ s0.trail, s.sn (z / 2) = true → s0.lv z < s0.ends.length → nt z ∈ tl
/-- what clause c asks: its false literals lie ahead of the place, and whoever denies them and what was seen meets a conflict -/
structure Lc (s0 s : St) (at_ : Nat) (c : Nat) : Prop where
  lt : c < s0.cls.length
  no : ∀ y ∈ (s0.cl c).lits, s0.val y = 2 → nt y ∈ s0.trail.take at_
  j : ∀ Y, Yc s0 Y → (∀ z ∈ s0.trail, s.sn (z / 2) = true → Y z) → (∀ y ∈ (s0.cl c).lits, s0.val y = 2 → Y (nt y)) → False
section
variable {U : Nat → Prop} {D : List Nat → Prop} {s0 s : St} {at_ opn k c : Nat} {out : List Nat}
theorem take_nodup (h : Tr U s0) (n : Nat) : (s0.trail.take n).Nodup := by
  have h2 : s0.trail.Nodup := List.Pairwise.of_map (S := (· ≠ ·)) (· / 2) (fun a b hab e => hab (by rw [e])) h.nd
  exact h2.sublist (List.take_sublist _ _)
/-- one literal of a clause -/
theorem Lw.lit (hT : Tr U s0) (hsh : Shp s0) (h : Lw s0 s at_ opn out k) {x : Nat} (hx : okL s0.vars x) (hn : s0.val x = 2 → nt x ∈ s0.trail.take at_) :
    Lw s0 (litS (s, opn, out) x).1 at_ (litS (s, opn, out) x).2.1 (litS (s, opn, out) x).2.2 k ∧ (∀ v, (litS (s, opn, out) x).1.sn v = (s.sn v || (v == x / 2 && s0.val x == 2 && decide (1 ≤ s0.lv x)))) := by
  have e1 : s.seen.getD (x / 2) false = s.sn (x / 2) := rfl
  have e2 : s.level.getD (x / 2) 0 = s0.lv x := h.fr.lv x
  have e3 : s.val x = s0.val x := h.fr.val x
  have e4 : s.ends.length = s0.ends.length := by rw [h.fr.ends]
  unfold litS
  simp only [e1, e2, e3, e4]
  by_cases hc : s.sn (x / 2) = true ∨ s0.lv x = 0 ∨ s0.val x ≠ 2
  · rw [if_pos hc]
    refine ⟨h, fun v => ?_⟩
    by_cases e : v = x / 2
    · subst e
      rcases hc with k | k | k
      · simp [k]
      · simp [k]
      · simp [k]
    · have : (v == x / 2) = false := by simpa using e
      rw [this]; simp
  · rw [if_neg hc]
    have hs : s.sn (x / 2) = false := by
      cases hb : s.sn (x / 2)
      · rfl
      · exact (hc (.inl hb)).elim
    have hl : 1 ≤ s0.lv x := by
      rcases Nat.eq_zero_or_pos (s0.lv x) with e | e
      · exact (hc (.inr (.inl e))).elim
      · exact e
    have hv : s0.val x = 2 := by
      by_cases e : s0.val x = 2
      · exact e
      · exact (hc (.inr (.inr e))).elim
    have hnx := hn hv
    have hnt : nt x ∈ s0.trail := List.mem_of_mem_take hnx
    have hlt : x / 2 < s.seen.length := by rw [h.fr.seen, hsh.se]; have := hx.2; omega
    obtain ⟨u, hu⟩ : ∃ u, u = meetS { s with seen := s.seen.set (x / 2) true } (x / 2) := ⟨_, rfl⟩
    rw [← hu]
    have husn : ∀ v, u.sn v = if v = x / 2 then true else s.sn v := fun v => by rw [hu, sn_meet]; exact sn_see hlt v
    have huf : Lf s0 u k := by rw [hu]; exact (h.fr.trans (lf_see s (x / 2) true)).trans (lf_meet _ _)
    obtain ⟨a1, a2⟩ := Av.meet (s := { s with seen := s.seen.set (x / 2) true }) ⟨h.av.ac, h.av.st⟩ (x / 2)
    rw [← hu] at a1 a2
    have hvx : ∀ z ∈ s0.trail, z / 2 = x / 2 → z = nt x := fun z hz e => by
      rcases half_eq e with e | e
      · subst e; exact (hT.not_both hz hnt).elim
      · exact e
    have husv : ∀ v, u.sn v = true → ∃ z ∈ s0.trail, z / 2 = v ∧ 1 ≤ s0.lv z ∧ (s0.lv z = s0.ends.length → z ∈ s0.trail.take at_) := fun v hv2 => by
      rw [husn] at hv2
      split at hv2
      · rename_i e
        exact ⟨nt x, hnt, by rw [nt_half, e], by rw [lv_nt]; exact hl, fun _ => hnx⟩
      · exact h.sv v hv2
    obtain ⟨tl, t1, t2, t3, t4⟩ := h.hd
    have hsnv : ∀ v, u.sn v = (s.sn v || (v == x / 2 && s0.val x == 2 && decide (1 ≤ s0.lv x))) := fun v => by
      rw [husn]
      by_cases e : v = x / 2
      · rw [if_pos e]; simp [e, hv, hl]
      · have : (v == x / 2) = false := by simpa using e
        rw [if_neg e, this]; simp
    have hmono : ∀ v, s.sn v = true → u.sn v = true := fun v hv2 => by rw [hsnv, hv2]; rfl
    by_cases ht : s0.lv x = s0.ends.length
    · rw [if_pos ht]
      refine ⟨⟨huf, a1, husv, fun _ _ => a2, ?_, tl, t1, t2, fun y hy => ?_, fun z hz hz2 hz3 => ?_⟩, hsnv⟩
      · rw [h.op]
        symm
        refine countP_one (take_nodup hT at_) hnx ?_ ?_ fun y hy hne => ?_
        · rw [nt_half, hs]; rfl
        · rw [nt_half, husn, if_pos rfl, lv_nt, ht]; simp
        · rw [husn, if_neg fun e => hne (hvx y (List.mem_of_mem_take hy) e)]
      · obtain ⟨q1, q2, q3⟩ := t3 y hy
        exact ⟨hmono _ q1, q2, q3⟩
      · rw [husn] at hz2
        split at hz2
        · rename_i e
          rw [hvx z hz e, lv_nt] at hz3; omega
        · exact t4 z hz hz2 hz3
    · rw [if_neg ht]
      have hlx : s0.lv x < s0.ends.length := by
        obtain ⟨p, hp⟩ := List.mem_iff_getElem?.1 hnt
        have := hT.le p _ hp
        rw [lv_nt] at this
        have := lvl_le s0.ends p
        omega
      refine ⟨⟨huf, a1, husv, fun _ _ => a2, ?_, tl ++ [x], by rw [t1]; rfl, ?_, fun y hy => ?_, fun z hz hz2 hz3 => ?_⟩, hsnv⟩
      · rw [h.op]
        refine List.countP_congr fun y hy => ?_
        rw [husn]
        split
        · rename_i e
          rw [hvx y (List.mem_of_mem_take hy) e, nt_half, hs, lv_nt]
          simp; omega
        · rfl
      · rw [List.map_append, List.nodup_append]
        refine ⟨t2, by simp, fun a ha b hb e => ?_⟩
        simp at hb
        obtain ⟨y, hy, rfl⟩ := List.mem_map.1 ha
        have := (t3 y hy).1
        rw [e, hb, hs] at this; cases this
      · rcases List.mem_append.1 hy with hy | hy
        · obtain ⟨q1, q2, q3⟩ := t3 y hy
          exact ⟨hmono _ q1, q2, q3⟩
        · rw [List.mem_singleton.1 hy]
          exact ⟨by rw [husn, if_pos rfl], hnt, hlx⟩
      · rw [husn] at hz2
        split at hz2
        · rename_i e
          rw [hvx z hz e, nt_nt]; simp
        · exact List.mem_append_left _ (t4 z hz hz2 hz3)
/-- all literals of a clause -/
theorem Lw.lits (hT : Tr U s0) (hsh : Shp s0) : ∀ (l : List Nat) (s : St) (opn : Nat) (out : List Nat), Lw s0 s at_ opn out k → (∀ x ∈ l, okL s0.vars x ∧ (s0.val x = 2 → nt x ∈ s0.trail.take at_)) →
    Lw s0 (l.foldl litS (s, opn, out)).1 at_ (l.foldl litS (s, opn, out)).2.1 (l.foldl litS (s, opn, out)).2.2 k ∧
      (∀ v, (l.foldl litS (s, opn, out)).1.sn v = true ↔ (s.sn v = true ∨ ∃ x ∈ l, v = x / 2 ∧ s0.val x = 2 ∧ 1 ≤ s0.lv x))
  | [], s, opn, out, h, _ => ⟨h, fun v => by simp⟩
  | x :: l, s, opn, out, h, hl => by
    rw [List.foldl_cons]
    obtain ⟨h1, h2⟩ := h.lit hT hsh (hl x (List.mem_cons_self ..)).1 (hl x (List.mem_cons_self ..)).2
    obtain ⟨h3, h4⟩ := Lw.lits hT hsh l _ _ _ h1 fun y hy => hl y (List.mem_cons_of_mem _ hy)
    refine ⟨h3, fun v => ?_⟩
    rw [h4 v, h2 v]
    simp only [Bool.or_eq_true, Bool.and_eq_true, beq_iff_eq, decide_eq_true_eq, List.mem_cons, exists_eq_or_imp]
    constructor
    · rintro ((k | ⟨⟨k1, k2⟩, k3⟩) | k)
      · exact .inl k
      · exact .inr (.inl ⟨k1, k2, k3⟩)
      · exact .inr (.inr k)
    · rintro (k | ⟨k1, k2, k3⟩ | k)
      · exact .inl (.inl k)
      · exact .inl (.inr ⟨⟨k1, k2⟩, k3⟩)
      · exact .inr k
end
end Go.Proofs.Ytcebafeaikipmaa.S15

namespace Go.Proofs.Ytcebafeaikipmaa.S15

theorem downF_spec (seen : List Bool) (T : List Nat) : ∀ (a : Nat), (∃ q, q < a ∧ seen.getD (T.getD q 0 / 2) false = true) →
    downF seen T a < a ∧ seen.getD (T.getD (downF seen T a) 0 / 2) false = true ∧ ∀ q, downF seen T a < q → q < a → seen.getD (T.getD q 0 / 2) false = false
  | 0, h => by obtain ⟨q, hq, _⟩ := h; omega
  | a + 1, h => by
    unfold downF
    by_cases e : seen.getD (T.getD a 0 / 2) false = true
    · rw [if_pos e]; exact ⟨by omega, e, fun q h1 h2 => by omega⟩
    · rw [if_neg e]
      obtain ⟨q, hq, hq2⟩ := h
      have hne : q ≠ a := fun e2 => e (e2 ▸ hq2)
      obtain ⟨k1, k2, k3⟩ := downF_spec seen T a ⟨q, by omega, hq2⟩
      refine ⟨by omega, k2, fun j h1 h2 => ?_⟩
      by_cases e2 : j = a
      · subst e2; simpa using e
      · exact k3 j h1 (by omega)
theorem mem_take_iff {l : List Nat} {n z : Nat} : z ∈ l.take n ↔ ∃ q, q < n ∧ l[q]? = some z := by
  constructor
  · intro h
    obtain ⟨q, hq, e⟩ := List.mem_iff_getElem.1 h
    rw [List.getElem_take] at e
    simp at hq
    exact ⟨q, by omega, by rw [List.getElem?_eq_getElem (by omega), e]⟩
  · rintro ⟨q, hq, e⟩
    obtain ⟨h1, h2⟩ := List.getElem?_eq_some_iff.1 e
    rw [List.mem_iff_getElem]
    exact ⟨q, by simp; omega, by rw [List.getElem_take]; exact h2⟩
/-- what a walk leaves -/
structure Lz (s0 s : St) (out : List Nat) (k : Nat) : Prop where
  fr : Lf s0 s k
  av : Av s
  st : s.step < 1099511627776
  hd : ∃ x tl, out = nt x :: tl ∧ x ∈ s0.trail ∧ s0.lv x = s0.ends.length ∧ (tl.map (· / 2)).Nodup ∧ (∀ y ∈ tl, nt y ∈ s0.trail ∧ 1 ≤ s0.lv y ∧ s0.lv y < s0.ends.length) ∧ ∀ v, s.sn v = true ↔ ∃ y ∈ tl, v = y / 2
  j : ∀ Y, Yc s0 Y → (∀ y ∈ out, Y (nt y)) → False
section
variable {U : Nat → Prop} {D : List Nat → Prop} {s0 s : St} {at_ opn k c : Nat} {out : List Nat}
def foldS (s : St) (c opn : Nat) (out : List Nat) : St × Nat × List Nat := (s.cl c).lits.foldl litS (bumpS s c, opn, out)
/-- behind the literals of a clause -/
structure Fo (s0 : St) (at_ : Nat) (q : St × Nat × List Nat) (k : Nat) : Prop where
  lw : Lw s0 q.1 at_ q.2.1 q.2.2 k
  ex : ∃ z ∈ s0.trail.take at_, q.1.sn (z / 2) = true ∧ s0.lv z = s0.ends.length
  j : ∀ Y, Yc s0 Y → (∀ z ∈ s0.trail, q.1.sn (z / 2) = true → Y z) → False
theorem Lw.bump (h : Lw s0 s at_ opn out k) (c : Nat) : Lw s0 (bumpS s c) at_ opn out (k + 1) := by
  refine ⟨h.fr.trans (lf_bump s c), ⟨?_, ?_⟩, fun v hv => h.sv v (by rw [← sn_bump s c]; exact hv), fun v hv => ?_, ?_, ?_⟩
  · unfold bumpS; split <;> exact h.av.ac
  · unfold bumpS; split <;> exact h.av.st
  · have := h.st v (by rw [← sn_bump s c]; exact hv)
    unfold bumpS; split <;> exact this
  · rw [h.op]; exact List.countP_congr fun z _ => by rw [sn_bump]
  · obtain ⟨tl, t1, t2, t3, t4⟩ := h.hd
    exact ⟨tl, t1, t2, fun y hy => by rw [sn_bump]; exact t3 y hy, fun z hz hz2 => t4 z hz (by rw [← sn_bump s c]; exact hz2)⟩
theorem Lw.fold (hT : Tr U s0) (hsh : Shp s0) (hl : Lt3 D s0) (h : Lw s0 s at_ opn out k) (hc : Lc s0 s at_ c)
    (htop : (∃ z ∈ s0.trail, s.sn (z / 2) = true ∧ s0.lv z = s0.ends.length) ∨ ∃ y ∈ (s0.cl c).lits, s0.val y = 2 ∧ s0.lv y = s0.ends.length) (he : 1 ≤ s0.ends.length) : Fo s0 at_ (foldS s c opn out) (k + 1) := by
  have hb : Lw s0 (bumpS s c) at_ opn out (k + 1) := h.bump c
  have hlit : (s.cl c).lits = (s0.cl c).lits := (h.fr.cl c).1
  obtain ⟨h1, h2⟩ := Lw.lits hT hsh (s0.cl c).lits _ _ _ hb fun x hx => ⟨(hl c hc.lt).2.2.1 x hx, hc.no x hx⟩
  unfold foldS
  rw [hlit]
  have hnt : ∀ y ∈ (s0.cl c).lits, s0.val y = 2 → nt y ∈ s0.trail := fun y hy hv => List.mem_of_mem_take (hc.no y hy hv)
  refine ⟨h1, ?_, fun Y hY hs => ?_⟩
  · rcases htop with ⟨z, hz, hz2, hz3⟩ | ⟨y, hy, hy2, hy3⟩
    · have hsn := (h2 (z / 2)).2 (.inl (by rw [sn_bump]; exact hz2))
      obtain ⟨z', q1, q2, q3, q4⟩ := h1.sv _ hsn
      have : z' = z := by
        rcases half_eq q2 with e | e
        · exact e
        · subst e; exact (hT.not_both hz q1).elim
      subst this
      exact ⟨z', q4 hz3, hsn, hz3⟩
    · exact ⟨nt y, hc.no y hy hy2, by rw [nt_half]; exact (h2 (y / 2)).2 (.inr ⟨y, hy, rfl, hy2, by omega⟩), by rw [lv_nt]; exact hy3⟩
  · refine hc.j Y hY (fun z hz hz2 => hs z hz ((h2 _).2 (.inl (by rw [sn_bump]; exact hz2)))) fun y hy hv => ?_
    have hm := hnt y hy hv
    rcases Nat.eq_zero_or_pos (s0.lv y) with e | e
    · exact hY.z0 _ hm (by rw [lv_nt]; exact e)
    · exact hs _ hm (by rw [nt_half]; exact (h2 _).2 (.inr ⟨y, hy, rfl, hv, e⟩))
/-- the place that is gone down to -/
def downS (s : St) (at_ : Nat) : Nat := downF s.seen s.trail at_
structure Dn (s0 s1 : St) (at_ : Nat) (p x : Nat) : Prop where
  lt : p < at_
  px : s0.trail[p]? = some x
  sx : s1.sn (x / 2) = true
  no : ∀ q z, p < q → q < at_ → s0.trail[q]? = some z → s1.sn (z / 2) = false
  top : s0.lv x = s0.ends.length
theorem Fo.down (hT : Tr U s0) {q : St × Nat × List Nat} (h : Fo s0 at_ q k) (hat : at_ ≤ s0.trail.length) : Dn s0 q.1 at_ (downS q.1 at_) (s0.trail.getD (downS q.1 at_) 0) := by
  obtain ⟨z, hz, hz2, hz3⟩ := h.ex
  obtain ⟨j, hj, hj2⟩ := mem_take_iff.1 hz
  have htr : q.1.trail = s0.trail := h.lw.fr.trail
  have hgd : ∀ i y, s0.trail[i]? = some y → s0.trail.getD i 0 = y := fun i y e => by rw [List.getD_eq_getElem?_getD, e]; rfl
  obtain ⟨k1, k2, k3⟩ := downF_spec q.1.seen q.1.trail at_ ⟨j, hj, by rw [htr, hgd j z hj2]; exact hz2⟩
  have hpx : s0.trail[downS q.1 at_]? = some (s0.trail.getD (downS q.1 at_) 0) := by
    have : downS q.1 at_ < s0.trail.length := Nat.lt_of_lt_of_le k1 hat
    rw [List.getD_eq_getElem?_getD, List.getElem?_eq_getElem this]; rfl
  refine ⟨k1, hpx, by show q.1.seen.getD (s0.trail.getD (downF q.1.seen q.1.trail at_) 0 / 2) false = true; rw [htr] at k2 ⊢; exact k2, fun i y h1 h2 h3 => ?_, ?_⟩
  · have := k3 i h1 h2
    rw [htr, hgd i y h3] at this
    exact this
  · have hle : j ≤ downS q.1 at_ := by
      apply Nat.le_of_not_lt
      intro hlt
      have := k3 j hlt hj
      rw [htr, hgd j z hj2] at this
      rw [show q.1.seen.getD (z / 2) false = q.1.sn (z / 2) from rfl, hz2] at this
      cases this
    have h1 := hT.le j z hj2
    have h2 := hT.le _ _ hpx
    have h3 := lvl_mono s0.ends hle
    have h4 := lvl_le s0.ends (downS q.1 at_)
    omega
theorem count_split {l : List Nat} {p n x : Nat} {f g : Nat → Bool} (hpn : p < n) (hx : l[p]? = some x) (hfx : f x = true) (h1 : ∀ z ∈ l.take p, f z = g z) (h2 : ∀ q z, p < q → q < n → l[q]? = some z → f z = false) : (l.take n).countP f = (l.take p).countP g + 1 := by
  obtain ⟨hp, hpe⟩ := List.getElem?_eq_some_iff.1 hx
  have e : l.take n = l.take p ++ x :: (l.drop (p + 1)).take (n - (p + 1)) := by
    rw [← List.take_append_drop p (l.take n), List.take_take, Nat.min_eq_left (Nat.le_of_lt hpn)]
    congr 1
    rw [List.drop_take, List.drop_eq_getElem_cons hp, hpe]
    rw [show n - p = (n - (p + 1)) + 1 by omega, List.take_succ_cons]
  rw [e, List.countP_append, List.countP_cons, hfx]
  have e1 : ((l.drop (p + 1)).take (n - (p + 1))).countP f = 0 := by
    rw [List.countP_eq_zero]
    intro z hz
    obtain ⟨q, hq, hq2⟩ := mem_take_iff.1 hz
    rw [List.getElem?_drop] at hq2
    simp [h2 (p + 1 + q) z (by omega) (by omega) hq2]
  have e2 : (l.take p).countP f = (l.take p).countP g := List.countP_congr fun z hz => by rw [h1 z hz]
  rw [e1, e2]; simp
/-- a variable of the last level is forgotten: what is so behind it -/
structure Go_ (s0 s1 : St) (p x opn : Nat) (out : List Nat) (k : Nat) : Prop where
  lw : Lw s0 (seeS s1 (x / 2) false) p (opn - 1) out k
  pos : 1 ≤ opn
  j : ∀ Y, Yc s0 Y → (∀ z ∈ s0.trail, (seeS s1 (x / 2) false).sn (z / 2) = true → Y z) → Y x → False
theorem Fo.go (hT : Tr U s0) (hsh : Shp s0) {q : St × Nat × List Nat} {p x : Nat} (h : Fo s0 at_ q k) (hd : Dn s0 q.1 at_ p x) : Go_ s0 q.1 p x q.2.1 q.2.2 k ∧ q.1.step < 1099511627776 := by
  have hxm : x ∈ s0.trail := List.mem_of_getElem? hd.px
  have hxo := hT.ok x hxm
  have hlt : x / 2 < q.1.seen.length := by rw [h.lw.fr.seen, hsh.se]; have := hxo.2; omega
  have hsn : ∀ v, (seeS q.1 (x / 2) false).sn v = if v = x / 2 then false else q.1.sn v := sn_see hlt
  have hmono : ∀ v, (seeS q.1 (x / 2) false).sn v = true → q.1.sn v = true := fun v hv => by
    rw [hsn] at hv; split at hv
    · cases hv
    · exact hv
  have hvx : ∀ z ∈ s0.trail, z / 2 = x / 2 → z = x := fun z hz e => by
    rcases half_eq e with e | e
    · exact e
    · subst e; exact (hT.not_both hxm hz).elim
  have hst := h.lw.st _ hd.sx
  have hop : q.2.1 = (s0.trail.take p).countP (fun z => (seeS q.1 (x / 2) false).sn (z / 2) && (s0.lv z == s0.ends.length)) + 1 := by
    rw [h.lw.op]
    refine count_split hd.lt hd.px (by rw [hd.sx, hd.top]; simp) (fun z hz => ?_) fun i z h1 h2 h3 => by rw [hd.no i z h1 h2 h3]; rfl
    have hne : z / 2 ≠ x / 2 := fun e => by
      have e2 := hvx z (List.mem_of_mem_take hz) e
      obtain ⟨i, hi, hi2⟩ := mem_take_iff.1 hz
      have := hT.var_inj hi2 hd.px e
      omega
    rw [hsn, if_neg hne]
  refine ⟨⟨⟨h.lw.fr.trans (lf_see _ _ _), ⟨h.lw.av.ac, h.lw.av.st⟩, fun v hv => ?_, fun v hv => hst, by omega, ?_⟩, by omega, fun Y hY hs hx => ?_⟩, hst⟩
  · obtain ⟨z, z1, z2, z3, z4⟩ := h.lw.sv v (hmono v hv)
    refine ⟨z, z1, z2, z3, fun hz => ?_⟩
    obtain ⟨i, hi, hi2⟩ := mem_take_iff.1 (z4 hz)
    refine mem_take_iff.2 ⟨i, ?_, hi2⟩
    apply Nat.lt_of_not_le
    intro hle
    rcases Nat.lt_or_eq_of_le hle with hlt2 | heq
    · have := hd.no i z hlt2 hi hi2
      rw [z2, hmono v hv] at this; cases this
    · subst heq
      rw [hd.px] at hi2
      cases hi2
      rw [hsn, if_pos z2.symm] at hv; cases hv
  · obtain ⟨tl, t1, t2, t3, t4⟩ := h.lw.hd
    refine ⟨tl, t1, t2, fun y hy => ?_, fun z hz hz2 hz3 => t4 z hz (hmono _ hz2) hz3⟩
    obtain ⟨y1, y2, y3⟩ := t3 y hy
    refine ⟨?_, y2, y3⟩
    rw [hsn, if_neg, y1]
    intro e
    have : nt y = x := hvx _ y2 (by rw [nt_half]; exact e)
    have h5 := hd.top
    rw [← this, lv_nt] at h5
    omega
  · refine h.j Y hY fun z hz hz2 => ?_
    by_cases e : z / 2 = x / 2
    · rw [hvx z hz e]; exact hx
    · exact hs z hz (by rw [hsn, if_neg e]; exact hz2)
/-- the last round -/
theorem Go_.fin (hT : Tr U s0) {s1 : St} {p x : Nat} (h : Go_ s0 s1 p x 1 out k) (hst : s1.step < 1099511627776) (hx : x ∈ s0.trail) (htop : s0.lv x = s0.ends.length) : Lz s0 (seeS s1 (x / 2) false) (out.set 0 (nt x)) k := by
  obtain ⟨tl, t1, t2, t3, t4⟩ := h.lw.hd
  have h0 : (s0.trail.take p).countP (fun z => (seeS s1 (x / 2) false).sn (z / 2) && (s0.lv z == s0.ends.length)) = 0 := h.lw.op.symm
  rw [List.countP_eq_zero] at h0
  have hlow : ∀ z ∈ s0.trail, (seeS s1 (x / 2) false).sn (z / 2) = true → s0.lv z < s0.ends.length := fun z hz hz2 => by
    obtain ⟨z', q1, q2, q3, q4⟩ := h.lw.sv _ hz2
    have e : z' = z := by
      rcases half_eq q2 with e | e
      · exact e
      · subst e; exact (hT.not_both hz q1).elim
    subst e
    obtain ⟨i, hi⟩ := List.mem_iff_getElem?.1 hz
    have h1 := hT.le i z' hi
    have h2 := lvl_le s0.ends i
    apply Nat.lt_of_le_of_ne (by omega)
    intro e2
    exact h0 z' (q4 e2) (by rw [hz2, e2]; simp)
  refine ⟨h.lw.fr, h.lw.av, hst, ⟨x, tl, by rw [t1]; rfl, hx, htop, t2, fun y hy => ?_, fun v => ⟨fun hv => ?_, ?_⟩⟩, fun Y hY hs => ?_⟩
  · obtain ⟨y1, y2, y3⟩ := t3 y hy
    obtain ⟨z', q1, q2, q3, q4⟩ := h.lw.sv _ y1
    refine ⟨y2, ?_, y3⟩
    have e : s0.lv y = s0.lv z' := by unfold St.lv; rw [q2]
    rw [e]; exact q3
  · obtain ⟨z, q1, q2, q3, q4⟩ := h.lw.sv _ hv
    exact ⟨nt z, t4 z q1 (by rw [q2]; exact hv) (hlow z q1 (by rw [q2]; exact hv)), by rw [nt_half, q2]⟩
  · rintro ⟨y, hy, rfl⟩; exact (t3 y hy).1
  · have e : out.set 0 (nt x) = nt x :: tl := by rw [t1]; rfl
    rw [e] at hs
    refine h.j Y hY (fun z hz hz2 => ?_) ?_
    · have := hs _ (List.mem_cons_of_mem _ (t4 z hz hz2 (hlow z hz hz2)))
      rw [nt_nt] at this; exact this
    · have := hs _ (List.mem_cons_self ..)
      rw [nt_nt] at this; exact this
/-- the reason of the variable is gone on with -/
theorem Go_.next (hT : Tr U s0) (hl : Lt3 D s0) {s1 : St} {p x : Nat} (h : Go_ s0 s1 p x opn out k) (hop : opn ≠ 1) (hx : s0.trail[p]? = some x) (htop : s0.lv x = s0.ends.length) (he : 1 ≤ s0.ends.length) :
    ∃ c', s0.reason.getD (x / 2) none = some c' ∧ Lc s0 (seeS s1 (x / 2) false) p c' ∧ ∃ z ∈ s0.trail, (seeS s1 (x / 2) false).sn (z / 2) = true ∧ s0.lv z = s0.ends.length := by
  have hpos := h.pos
  have hc : 0 < (s0.trail.take p).countP (fun z => (seeS s1 (x / 2) false).sn (z / 2) && (s0.lv z == s0.ends.length)) := by rw [← h.lw.op]; omega
  rw [List.countP_pos_iff] at hc
  obtain ⟨z, hz, hz2⟩ := hc
  simp only [Bool.and_eq_true, beq_iff_eq] at hz2
  obtain ⟨i, hi, hi2⟩ := mem_take_iff.1 hz
  have hzm := List.mem_of_mem_take hz
  have hre := hT.re p x hx
  have hxm := List.mem_of_getElem? hx
  cases hr : s0.reason.getD (x / 2) none with
  | none =>
    rw [hr] at hre
    rcases hre with ⟨e, _⟩ | e
    · have := hT.le p x hx
      omega
    · have h1 := hT.le i z hi2
      have h2 : lvl s0.ends i = s0.ends.length := by omega
      have h3 : ∀ e ∈ s0.ends, e ≤ i := fun e he2 => by
        unfold lvl at h2
        have := List.filter_eq_self.1 (List.Sublist.eq_of_length (List.filter_sublist (p := fun e => decide (e ≤ i)) (l := s0.ends)) h2) e he2
        simpa using this
      have := h3 p e
      omega
  | some c' =>
    rw [hr] at hre
    obtain ⟨r1, r2, r3⟩ := hre
    have hxo := hT.ok x hxm
    have hv1 : s0.val x = 1 := (hT.val1 hxo).2 hxm
    refine ⟨c', rfl, ⟨r1, fun y hy hv => r3 y hy fun e => by subst e; omega, fun Y hY hs hn => ?_⟩, z, hzm, hz2.1, hz2.2⟩
    refine h.j Y hY hs (hY.un c' r1 x ?_ fun y hy hne => ?_)
    · rw [← r2]; exact getD_mem (by have := (hl c' r1).1; omega)
    · refine hn y hy ?_
      have hm := List.mem_of_mem_take (r3 y hy hne)
      exact (hT.val2 ((hl c' r1).2.2.1 y hy)).2 hm
theorem walkS_go (f : Nat) (s : St) (c opn at_ : Nat) (out : List Nat) : walkS (f + 1) s c opn at_ out =
    (let q := foldS s c opn out
     let x := q.1.trail.getD (downS q.1 at_) 0
     if q.2.1 = 1 then (seeS q.1 (x / 2) false, q.2.2.set 0 (nt x))
     else match q.1.reason.getD (x / 2) none with
       | none => (seeS q.1 (x / 2) false, q.2.2)
       | some c' => walkS f (seeS q.1 (x / 2) false) c' (q.2.1 - 1) (downS q.1 at_) q.2.2) := by
  rw [walkS]; rfl
theorem walk_ok (hT : Tr U s0) (hsh : Shp s0) (hl : Lt3 D s0) (he : 1 ≤ s0.ends.length) : ∀ (f : Nat) (s : St) (c opn at_ : Nat) (out : List Nat) (k : Nat), at_ < f → at_ ≤ s0.trail.length → Lw s0 s at_ opn out k → Lc s0 s at_ c →
    ((∃ z ∈ s0.trail, s.sn (z / 2) = true ∧ s0.lv z = s0.ends.length) ∨ ∃ y ∈ (s0.cl c).lits, s0.val y = 2 ∧ s0.lv y = s0.ends.length) →
    ∃ K, K ≤ k + at_ + 1 ∧ Lz s0 (walkS f s c opn at_ out).1 (walkS f s c opn at_ out).2 K
  | 0, _, _, _, _, _, _, h, _, _, _, _ => by omega
  | f + 1, s, c, opn, at_, out, k, h, hat, hw, hc, htop => by
    have hfo := hw.fold hT hsh hl hc htop he
    have hd := hfo.down hT hat
    obtain ⟨hg, hst⟩ := hfo.go hT hsh hd
    have etr : (foldS s c opn out).1.trail = s0.trail := hfo.lw.fr.trail
    have ere : (foldS s c opn out).1.reason = s0.reason := hfo.lw.fr.reason
    rw [walkS_go]
    simp only [etr, ere]
    have hxm := List.mem_of_getElem? hd.px
    by_cases e : (foldS s c opn out).2.1 = 1
    · rw [if_pos e]
      rw [e] at hg
      exact ⟨k + 1, by omega, hg.fin hT hst hxm hd.top⟩
    · rw [if_neg e]
      obtain ⟨c', r1, r2, r3⟩ := hg.next hT hl e hd.px hd.top he
      rw [r1]
      simp only
      obtain ⟨K, hK, hz⟩ := walk_ok hT hsh hl he f _ c' _ _ _ _ (by have := hd.lt; omega) (by have := hd.lt; omega) hg.lw r2 (.inl r3)
      exact ⟨K, by have := hd.lt; omega, hz⟩
/-- the beginning: a clause that is false -/
theorem Conf.start (h : Conf U D s0 c) (hs : ∀ v, s0.sn v = false) (ha : Av s0) : Lw s0 s0 s0.trail.length 0 [0] 0 ∧ Lc s0 s0 s0.trail.length c ∧ ∃ y ∈ (s0.cl c).lits, s0.val y = 2 ∧ s0.lv y = s0.ends.length := by
  have hlt := h.ui.lt c h.lt
  have hv : ∀ y ∈ (s0.cl c).lits, s0.val y = 2 := fun y hy => (h.ui.tr.val2 (hlt.2.2.1 y hy)).2 (h.no y hy)
  refine ⟨⟨Lf.refl s0, ha, fun v hv => (by rw [hs] at hv; cases hv), fun v hv => (by rw [hs] at hv; cases hv), ?_, [], rfl, by simp, by simp, fun z _ hz => by rw [hs] at hz; cases hz⟩,
    ⟨h.lt, fun y hy _ => by rw [List.take_length]; exact h.no y hy, fun Y hY _ hn => ?_⟩, ?_⟩
  · symm
    rw [List.countP_eq_zero]
    intro z _
    simp [hs]
  · obtain ⟨y, hy, hy2⟩ := hY.ne c h.lt
    exact hy2 (hn y hy (hv y hy))
  · obtain ⟨y, hy, hy2⟩ := h.top
    exact ⟨y, hy, hv y hy, hy2⟩
end
end Go.Proofs.Ytcebafeaikipmaa.S15
