/- Clauses in memory: a row of rows of numbers; the last row is pushed to. -/
import Derived.Test.YtgfbmidpiamkhaaDoorDiW5
import Derived.Test.YtgfbmidpiamkhaaDoorRowsO
namespace Go.Proofs.YtgfbmidpiamkhaaDoor
open Go.RowKit
open D28

theorem eRow : Elem1 Tryd.prog 22 56 24 := elem1_mk (z := .slice none 0 0) Tryd.underlying22 (by kernel_rfl) (by omega) rfl
theorem eInt : Elem1 Tryd.prog 56 3 8 := elem1_mk (z := .int .i64 0) Tryd.underlying56 (by kernel_rfl) (by omega) rfl
theorem own_obj {w : World} {base : Nat} {t : TypeId} {sz : Nat} {v : Value} {n : Nat} {xs : List Value} (ho : w.ownsRow base t sz v n xs) {g : Nat} (hg : v.ownBlock = some g) : ∃ c, w.heap[g]? = some (.cells c t (0, 0)) := by
  obtain ⟨h1, ⟨rfl, h2⟩ | ⟨g', cap, cur, rfl, hbg, hh, hr⟩⟩ := ho
  · cases hg
  · cases hg; exact ⟨_, hh⟩
theorem own_set1 {w : World} {base g cap n : Nat} {t : TypeId} {xs : List Value} (h : w.ownsRow base t 1 (.slice (some ⟨g, 0, none⟩) n cap) n xs) (j : Nat) (u : Value) : (w.setCell ⟨g, j, none⟩ u).ownsRow base t 1 (.slice (some ⟨g, 0, none⟩) n cap) n (xs.set j u) := by
  have hxl : xs.length = n := by simpa using h.1
  obtain ⟨_, ⟨h, _⟩ | ⟨g', cap', cur, h, hbg, hh, hnc, hcm, hsz, htk⟩⟩ := h
  · cases h
  cases h
  refine ⟨by simp; omega, .inr ⟨g, cap, _, rfl, hbg, heap_setCell_same w g j cur t u hh, hnc, hcm, by simpa using hsz, ?_⟩⟩
  rw [← htk, Array.toList_setIfInBounds, List.take_set]
abbrev nV (n : Int) : Value := .int .i64 n
structure RR (w : World) (B : Nat) (v : Value) (vs : List Value) (ls : List (List Int)) : Prop where
  own : w.ownsRow B 56 1 v ls.length vs
  row : ∀ (k : Nat) (u : Value) (l : List Int), vs[k]? = some u → ls[k]? = some l → w.ownsRow B 3 1 u l.length (l.map nV)
  far : ∀ (j k : Nat) (u x : Value), j ≠ k → vs[j]? = some u → vs[k]? = some x → u.ownBlock = none ∨ u.ownBlock ≠ x.ownBlock
/-- the types of the rows -/
def rowT (t : TypeId) : Prop := t = 56 ∨ t = 3
theorem RR.len {w : World} {B : Nat} {v : Value} {vs : List Value} {ls : List (List Int)} (h : RR w B v vs ls) : vs.length = ls.length := by simpa using h.own.1
theorem RR.nil_ (w : World) (B : Nat) : RR w B (.slice none 0 0) [] [] := ⟨World.ownsRow_nil _ _ _ _, by simp, by simp⟩
theorem RR.shape {w : World} {B : Nat} {v : Value} {vs : List Value} {ls : List (List Int)} (h : RR w B v vs ls) : ∃ A c, v = .slice A ls.length c := own_shape h.own
theorem RR.keep {w w' : World} {B : Nat} {v : Value} {vs : List Value} {ls : List (List Int)} (h : RR w B v vs ls) (hb : ∀ g c t f, B ≤ g → w.heap[g]? = some (.cells c t f) → rowT t → w'.heap[g]? = w.heap[g]?) : RR w' B v vs ls :=
  ⟨own_ag h.own fun g hg => by obtain ⟨c, hc⟩ := own_obj h.own hg; exact hb g c _ _ (h.own.lt g hg).1 hc (.inl rfl),
   fun k u l hu hl => own_ag (h.row k u l hu hl) fun g hg => by obtain ⟨c, hc⟩ := own_obj (h.row k u l hu hl) hg; exact hb g c _ _ ((h.row k u l hu hl).lt g hg).1 hc (.inr rfl), h.far⟩
theorem RR.up {w w' : World} {B : Nat} {v : Value} {vs : List Value} {ls : List (List Int)} (h : RR w B v vs ls) (hb : Below w.heap.size w w') : RR w' B v vs ls :=
  h.keep fun g _ _ _ _ hc _ => hb.block g (Array.getElem?_eq_some_iff.1 hc).1
theorem RR.kp {p : Nat → Obj → Prop} {w w' : World} {B : Nat} {v : Value} {vs : List Value} {ls : List (List Int)} (h : RR w B v vs ls) (hk : Kp p w w') (hp : ∀ g c t f, B ≤ g → rowT t → p g (.cells c t f)) : RR w' B v vs ls :=
  h.keep fun g c t f hg hc ht => (hk.same g _ hc (hp g c t f hg ht)).trans hc.symm
/-- a cell of another type is written -/
theorem RR.setCell {w : World} {B : Nat} {v : Value} {vs : List Value} {ls : List (List Int)} (h : RR w B v vs ls) {G k : Nat} {c : Array Value} {t : TypeId} {f : Nat × Nat} (hG : w.heap[G]? = some (.cells c t f)) (ht : ¬ rowT t) (u : Value) : RR (w.setCell ⟨G, k, none⟩ u) B v vs ls :=
  h.keep fun g c' t' f' _ hc ht' => Below.heap_setCell w ⟨G, k, none⟩ u g fun e => by
    have e' : g = G := e
    subst e'; rw [hG] at hc; cases hc; exact ht ht'
theorem RR.pushNil {w w1 w5 : World} {B : Nat} {v v' : Value} {vs : List Value} {ls : List (List Int)} (h : RR w B v vs ls) (hb : Below w.heap.size w w1) (hown : w5.ownsRow B 56 1 v' (ls.length + 1) (vs ++ [.slice none 0 0])) (hg : w1.grownBy w5 v.ownBlock) : RR w5 B v' (vs ++ [.slice none 0 0]) (ls ++ [[]]) := by
  have hl := h.len
  refine ⟨by simpa using hown, fun k u l hu hm => ?_, fun j k u x hjk hu hx => ?_⟩
  · rcases Nat.lt_or_ge k vs.length with hk | hk
    · rw [List.getElem?_append_left hk] at hu
      rw [List.getElem?_append_left (by omega)] at hm
      refine own_ag (h.row k u l hu hm) fun g hg' => ?_
      have h1 := (h.row k u l hu hm).lt g hg'
      refine (hg.block g (Nat.lt_of_lt_of_le h1.2 hb.size) fun e => ?_).trans (hb.block g h1.2)
      obtain ⟨c, hc⟩ := own_obj (h.row k u l hu hm) hg'
      obtain ⟨c2, hc2⟩ := own_obj h.own e.symm
      rw [hc] at hc2
      have := (Obj.cells.inj (Option.some.inj hc2)).2.1
      exact absurd this (by decide)
    · rw [List.getElem?_append_right hk] at hu
      rw [List.getElem?_append_right (by omega)] at hm
      have hk2 : k = vs.length := by
        have := (List.getElem?_eq_some_iff.1 hu).1
        simp at this; omega
      subst hk2
      rw [← hl] at hm
      simp at hu hm
      subst hu hm
      exact World.ownsRow_nil _ _ _ _
  · rcases Nat.lt_or_ge j vs.length with hj | hj
    · rw [List.getElem?_append_left hj] at hu
      rcases Nat.lt_or_ge k vs.length with hk | hk
      · rw [List.getElem?_append_left hk] at hx
        exact h.far j k u x hjk hu hx
      · rw [List.getElem?_append_right hk] at hx
        have := (List.getElem?_eq_some_iff.1 hx).1
        simp at this
        have e : k - vs.length = 0 := by omega
        rw [e] at hx; simp at hx; subst hx
        cases ho : u.ownBlock with
        | none => exact .inl rfl
        | some g => exact .inr (by simp [Value.ownBlock])
    · rw [List.getElem?_append_right hj] at hu
      have := (List.getElem?_eq_some_iff.1 hu).1
      simp at this
      have e : j - vs.length = 0 := by omega
      rw [e] at hu; simp at hu; subst hu
      exact .inl rfl
theorem RR.pushLast {w w1 w5 : World} {B gw cw k : Nat} {u u' : Value} {vs : List Value} {ls : List (List Int)} {l : List Int} {x : Int} (h : RR w B (.slice (some ⟨gw, 0, none⟩) ls.length cw) vs ls) (hb : Below w.heap.size w w1)
    (hu : vs[k]? = some u) (hl : ls[k]? = some l) (hown : w5.ownsRow B 3 1 u' (l.length + 1) (l.map nV ++ [nV x])) (hg : w1.grownBy w5 u.ownBlock) (hat : u'.ownBlock = u.ownBlock ∨ u'.ownBlock = some w1.heap.size) :
    RR (w5.setCell ⟨gw, k, none⟩ u') B (.slice (some ⟨gw, 0, none⟩) ls.length cw) (vs.set k u') (ls.set k (l ++ [x])) := by
  have hlen := h.len
  have hkl : k < vs.length := (List.getElem?_eq_some_iff.1 hu).1
  have hgw := h.own.lt gw rfl
  obtain ⟨cw', hcw⟩ := own_obj h.own (g := gw) rfl
  have hugw : some gw ≠ u.ownBlock := fun e => by
    obtain ⟨c, hc⟩ := own_obj (h.row k u l hu hl) e.symm
    rw [hcw] at hc
    exact absurd (Obj.cells.inj (Option.some.inj hc)).2.1 (by decide)
  have hsz := hb.size
  have hgw5 : w5.heap[gw]? = w.heap[gw]? := (hg.block gw (by omega) hugw).trans (hb.block gw hgw.2)
  have hu'gw : ∀ g, u'.ownBlock = some g → g ≠ gw := fun g hg' e => by
    subst e
    rcases hat with h1 | h1
    · exact hugw (hg'.symm.trans h1)
    · rw [h1] at hg'; cases hg'; omega
  refine ⟨?_, fun j x' m hx hm => ?_, fun i j x1 x2 hij h1 h2 => ?_⟩
  · have h5 : w5.ownsRow B 56 1 (.slice (some ⟨gw, 0, none⟩) ls.length cw) ls.length vs := own_ag h.own fun g hg' => by cases hg'; exact hgw5
    simpa using own_set1 h5 k u'
  · rw [List.getElem?_set] at hx hm
    by_cases hkj : k = j
    · subst hkj
      rw [if_pos rfl, if_pos hkl] at hx
      rw [if_pos rfl, if_pos (by omega)] at hm
      cases hx; cases hm
      refine own_ag (by simpa using hown) fun g hg' => Below.heap_setCell w5 ⟨gw, k, none⟩ _ g (hu'gw g hg')
    · rw [if_neg hkj] at hx hm
      refine own_ag (h.row j x' m hx hm) fun g hg' => ?_
      have hlt := (h.row j x' m hx hm).lt g hg'
      have hne : g ≠ gw := fun e => by
        subst e
        obtain ⟨c, hc⟩ := own_obj (h.row j x' m hx hm) hg'
        rw [hcw] at hc
        exact absurd (Obj.cells.inj (Option.some.inj hc)).2.1 (by decide)
      have hne2 : some g ≠ u.ownBlock := fun e => by
        rcases h.far j k x' u (fun e => hkj e.symm) hx hu with h0 | h0
        · rw [h0] at hg'; cases hg'
        · exact h0 (hg'.trans e)
      exact (Below.heap_setCell w5 ⟨gw, k, none⟩ _ g hne).trans ((hg.block g (by omega) hne2).trans (hb.block g hlt.2))
  · rw [List.getElem?_set] at h1 h2
    have hlt : ∀ (j : Nat) (x' : Value), vs[j]? = some x' → ∀ g, x'.ownBlock = some g → g < w1.heap.size := fun j x' hx g hg' => by
      have hjl : j < ls.length := by have := (List.getElem?_eq_some_iff.1 hx).1; omega
      have := ((h.row j x' _ hx (List.getElem?_eq_getElem hjl)).lt g hg').2
      omega
    by_cases hki : k = i
    · subst hki
      rw [if_pos rfl, if_pos hkl] at h1
      cases h1
      rw [if_neg hij] at h2
      rcases hat with h0 | h0
      · rw [h0]; exact h.far k j u x2 hij hu h2
      · rw [h0]
        exact .inr fun e => by have := hlt j x2 h2 _ e.symm; omega
    · rw [if_neg hki] at h1
      by_cases hkj : k = j
      · subst hkj
        rw [if_pos rfl, if_pos hkl] at h2
        cases h2
        rcases hat with h0 | h0
        · rw [h0]; exact h.far i k x1 u hij h1 hu
        · rw [h0]
          cases ho : x1.ownBlock with
          | none => exact .inl rfl
          | some g => exact .inr fun e => by cases e; have := hlt i x1 h1 _ ho; omega
      · rw [if_neg hkj] at h2
        exact h.far i j x1 x2 hij h1 h2
/-- the clauses may be read -/
theorem RR.reads {w : World} {B : Nat} {v : Value} {vs : List Value} {ls : List (List Int)} (h : RR w B v vs ls) : RIntss w (fun b => B ≤ b ∧ b < w.heap.size) v ls := by
  refine reads_of_own h.own rfl (fun g hg => h.own.lt g hg) fun k hk u hu => ?_
  have hl : ls[k]? = some ls[k] := List.getElem?_eq_getElem hk
  have hr := h.row k u ls[k] hu hl
  refine reads_of_own hr (by simp) (fun g hg => hr.lt g hg) fun j hj x hx => ?_
  simp [hj] at hx
  exact hx.symm
/-- .. in blocks other than one that holds no cells -/
theorem RR.reads_but {w : World} {B D : Nat} {v : Value} {vs : List Value} {ls : List (List Int)} (h : RR w B v vs ls) (hD : ∀ c t f, w.heap[D]? ≠ some (.cells c t f)) : RIntss w (fun b => B ≤ b ∧ b < w.heap.size ∧ b ≠ D) v ls := by
  refine reads_of_own h.own rfl (fun g hg => ⟨(h.own.lt g hg).1, (h.own.lt g hg).2, fun e => by subst e; obtain ⟨c, hc⟩ := own_obj h.own hg; exact hD _ _ _ hc⟩) fun k hk u hu => ?_
  have hl : ls[k]? = some ls[k] := List.getElem?_eq_getElem hk
  have hr := h.row k u ls[k] hu hl
  refine reads_of_own hr (by simp) (fun g hg => ⟨(hr.lt g hg).1, (hr.lt g hg).2, fun e => by subst e; obtain ⟨c, hc⟩ := own_obj hr hg; exact hD _ _ _ hc⟩) fun j hj x hx => ?_
  simp [hj] at hx
  exact hx.symm
theorem pushLast_set {out : List (List Int)} {c : List Int} {n : Int} {k : Nat} (h : out[k]? = some c) (hk : k + 1 = out.length) : pushLast out n = out.set k (c ++ [n]) := by
  obtain ⟨r, l, rfl⟩ : ∃ r l, out = r ++ [l] := ⟨out.dropLast, out.getLast (by rintro rfl; simp at hk), (List.dropLast_concat_getLast _).symm⟩
  have hkr : k = r.length := by simp at hk; omega
  subst hkr
  simp at h
  subst h
  simp [pushLast]
theorem step_push1 {P : Program} {ops : Array Oper} {o : Oper} {w : World} {a : Act} {K : Act → World → Prop} {Q : Exit → Act → World → Prop} {E : Prop} (hgd : o.guard = none) (s x : Operand) (t : TypeId)
    (ho : o.op = .call { callee := .builtin .append, args := #[s, x], argTypes := #[t, t] }) {e : TypeId} {bytes B : Nat} (he : Elem1 P t e bytes)
    {v : Value} {n : Nat} {xs : List Value} (hs : a.eval s = v) (hown : w.ownsRow B e 1 v n xs) (g : Nat) (u : Value) (hx : a.eval x = .slice (some ⟨g, 0, none⟩) 1 1)
    (hc : w.cell? ⟨g, 0, none⟩ = some u) (h1 : u.oneCell' = true) (hn : n < 999999999999) (hbase : B ≤ w.heap.size)
    (h : ∀ v' w', w'.ownsRow B e 1 v' (n + 1) (xs ++ [u]) → w.grownBy w' v.ownBlock → (v'.ownBlock = v.ownBlock ∨ v'.ownBlock = some w.heap.size) → K (a.put o.dst v') w') :
    if Region.wanted o (yielded ops a.tmps) = true then Oper.wp P o a w K Q else E := by
  refine step_append_own hgd s x t ho he v n xs hs hown ⟨g, 0, none⟩ 1 1 [u] hx rfl (fun j u' hu => ?_) (fun u' hu => ?_) (by omega) hbase h
  · match j with
    | 0 => simp at hu; subst hu; exact hc
    | j + 1 => simp at hu
  · simp at hu; subst hu; exact h1
end Go.Proofs.YtgfbmidpiamkhaaDoor
