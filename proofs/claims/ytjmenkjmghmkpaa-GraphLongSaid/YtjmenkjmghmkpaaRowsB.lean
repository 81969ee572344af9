/- Rows of the call's own in a block of its own, each row in a block of its own from block base on. No function of the program is in sight. -/
import Derived.Test.YtjmenkjmghmkpaaRowsO
namespace Go.Proofs.Ytjmenkjmghmkpaa
open Go.RowKit

/-- Block O holds the slices vs; each is a row of its own, which holds ls (encoded by f). -/
structure RowsB {α : Type} (f : α → Value) (w : World) (O base : Nat) (et ei : TypeId) (vs : List Value) (ls : List (List α)) : Prop where
  blk : VBlk w O et vs
  lt : O < base
  len : vs.length = ls.length
  own : ∀ (k : Nat) (v : Value) (l : List α), vs[k]? = some v → ls[k]? = some l → w.ownsRow base ei 1 v l.length (l.map f)
  far : ∀ (j k : Nat) (u v : Value), j ≠ k → vs[j]? = some u → vs[k]? = some v → u.ownBlock = none ∨ u.ownBlock ≠ v.ownBlock
section
variable {α : Type} {f : α → Value} {w w' : World} {O base : Nat} {et ei : TypeId} {vs : List Value} {ls : List (List α)}
theorem RowsB.keep (h : RowsB f w O base et ei vs ls) (hb : ∀ i, i = O ∨ base ≤ i → i < w.heap.size → w'.heap[i]? = w.heap[i]?) : RowsB f w' O base et ei vs ls :=
  ⟨(hb O (.inl rfl) h.blk.lt).trans h.blk, h.lt, h.len, fun k v l hv hl => own_ag (h.own k v l hv hl) fun g hg => by
    have := (h.own k v l hv hl).lt g hg
    exact hb g (.inr this.1) this.2, h.far⟩
theorem RowsB.up (h : RowsB f w O base et ei vs ls) (hb : Below w.heap.size w w') : RowsB f w' O base et ei vs ls := h.keep fun i _ hi => hb.block i hi
theorem RowsB.made {w : World} {n : Nat} (h : VBlk w O et (List.replicate n (.slice none 0 0))) (hl : O < base) : RowsB f w O base et ei (List.replicate n (.slice none 0 0)) (List.replicate n []) := by
  refine ⟨h, hl, by simp, fun k v l hv hl => ?_, fun j k u v _ hu _ => ?_⟩
  · rw [List.getElem?_replicate] at hv hl
    by_cases hk : k < n
    · rw [if_pos hk] at hv hl
      cases hv; cases hl; exact World.ownsRow_nil _ _ _ _
    · rw [if_neg hk] at hv; cases hv
  · simp only [List.getElem?_replicate] at hu
    split at hu
    · cases hu; exact .inl rfl
    · cases hu
/-- One value more in row k. -/
theorem RowsB.push (h : RowsB f w O base et ei vs ls) {k : Nat} {v v' : Value} {l : List α} {x : α} {w1 w7 : World} (hv : vs[k]? = some v) (hl : ls[k]? = some l)
    (h1 : ∀ i, i < w.heap.size → w1.heap[i]? = w.heap[i]?) (hs : w.heap.size ≤ w1.heap.size) (hg : w1.grownBy w7 v.ownBlock) (ho : w7.ownsRow base ei 1 v' (l.length + 1) (l.map f ++ [f x])) (hat : v'.ownBlock = v.ownBlock ∨ v'.ownBlock = some w1.heap.size) :
    RowsB f (w7.setCell ⟨O, k, none⟩ v') O base et ei (vs.set k v') (ls.set k (l ++ [x])) := by
  have hk : k < vs.length := (List.getElem?_eq_some_iff.1 hv).1
  have hO : O < w.heap.size := h.blk.lt
  have hvO : some O ≠ v.ownBlock := fun e => by have := (h.own k v l hv hl).lt O e.symm; have := h.lt; omega
  have hb7 : VBlk w7 O et vs := (hg.block O (by omega) hvO).trans ((h1 O hO).trans h.blk)
  have hOb := h.lt
  refine ⟨hb7.set k v', h.lt, by simp [h.len], fun j u m hu hm => ?_, fun i j u u' hij hu hu' => ?_⟩
  · rw [List.getElem?_set] at hu hm
    by_cases hjk : k = j
    · subst hjk
      rw [if_pos rfl, if_pos hk] at hu
      rw [if_pos rfl, if_pos (by rw [← h.len]; exact hk)] at hm
      cases hu; cases hm
      have ho' : w7.ownsRow base ei 1 v' (l ++ [x]).length ((l ++ [x]).map f) := by simpa using ho
      refine own_ag ho' fun g hg' => Below.heap_setCell w7 ⟨O, k, none⟩ v' g fun e => ?_
      have := (ho'.lt g hg').1
      have e' : g = O := e
      omega
    · rw [if_neg hjk] at hu hm
      have ho' := h.own j u m hu hm
      refine own_ag ho' fun g hg' => ?_
      have hgl := ho'.lt g hg'
      refine (Below.heap_setCell w7 ⟨O, k, none⟩ v' g fun e => ?_).trans ((hg.block g (by omega) fun e => ?_).trans (h1 g hgl.2))
      · have e' : g = O := e
        omega
      · rcases h.far j k u v (fun e => hjk e.symm) hu hv with h2 | h2
        · rw [hg'] at h2; cases h2
        · rw [hg'] at h2; exact h2 e
  · rw [List.getElem?_set] at hu hu'
    by_cases hik : k = i
    · subst hik
      rw [if_pos rfl, if_pos hk] at hu
      rw [if_neg hij] at hu'
      cases hu
      rcases hat with e | e
      · rw [e]; exact h.far k j v u' hij hv hu'
      · rw [e]
        refine .inr fun e2 => ?_
        have hj : j < ls.length := by rw [← h.len]; exact (List.getElem?_eq_some_iff.1 hu').1
        have := ((h.own j u' ls[j] hu' (List.getElem?_eq_getElem hj)).lt _ e2.symm).2
        omega
    · rw [if_neg hik] at hu
      by_cases hjk : k = j
      · subst hjk
        rw [if_pos rfl, if_pos hk] at hu'
        cases hu'
        rcases hat with e | e
        · rw [e]; exact h.far i k u v hij hu hv
        · rw [e]
          refine .inr fun e2 => ?_
          have hi : i < ls.length := by rw [← h.len]; exact (List.getElem?_eq_some_iff.1 hu).1
          have := ((h.own i u ls[i] hu (List.getElem?_eq_getElem hi)).lt _ e2).2
          omega
      · rw [if_neg hjk] at hu'
        exact h.far i j u u' hij hu hu'
theorem RowsB.reads {R : Rd α} (hR : ∀ w S x, R w S (f x) x) (h : RowsB f w O base et ei vs ls) {S : Nat → Prop} (hO : S O) (hS : ∀ b, base ≤ b → b < w.heap.size → S b) (hn : ls.length ≤ 1000000) : RSl (RSl R) w S (.slice (some ⟨O, 0, none⟩) ls.length ls.length) ls :=
  rows_block h.blk hO rfl hn h.len fun i hi u hu => by
    have ho := h.own i u ls[i] hu (List.getElem?_eq_getElem hi)
    exact reads_of_own ho rfl (fun g hg => by have := ho.lt g hg; exact hS g this.1 this.2) fun k hk u' hu' => by
      rw [List.getElem?_map, List.getElem?_eq_getElem hk] at hu'
      cases hu'
      exact hR _ _ _
theorem RowsB.row (h : RowsB f w O base et ei vs ls) {k : Nat} (hk : k < ls.length) : ∃ A c, vs[k]? = some (.slice A ls[k].length c) ∧ w.cell? ⟨O, k, none⟩ = some (.slice A ls[k].length c) ∧ w.ownsRow base ei 1 (.slice A ls[k].length c) ls[k].length (ls[k].map f) := by
  have hkv : k < vs.length := by rw [h.len]; exact hk
  have ho := h.own k vs[k] ls[k] (List.getElem?_eq_getElem hkv) (List.getElem?_eq_getElem hk)
  obtain ⟨A, c, e⟩ := own_shape ho
  rw [e] at ho
  have hv : vs[k]? = some (.slice A ls[k].length c) := by rw [List.getElem?_eq_getElem hkv, e]
  exact ⟨A, c, hv, h.blk.cell hv, ho⟩
end
/-- A row of the call's own, of values that lie in blocks S. -/
def RowsS {α : Type} (R : Rd α) (w : World) (S : Nat → Prop) (base : Nat) (e : TypeId) (v : Value) (l : List α) : Prop :=
  ∃ xs, w.ownsRow base e 1 v l.length xs ∧ ∀ (k : Nat) (h : k < l.length) (u : Value), xs[k]? = some u → R w S u l[k]
section
variable {α : Type} {R : Rd α} {w w1 w' : World} {S : Nat → Prop} {base : Nat} {e : TypeId} {v v' : Value} {l : List α}
theorem RowsS.nil_ (R : Rd α) (w : World) (S : Nat → Prop) (base : Nat) (e : TypeId) : RowsS R w S base e (.slice none 0 0) [] := ⟨[], World.ownsRow_nil _ _ _ _, fun k h => absurd h (by simp)⟩
theorem RowsS.own (h : RowsS R w S base e v l) : ∃ xs, w.ownsRow base e 1 v l.length xs := by obtain ⟨xs, ho, _⟩ := h; exact ⟨xs, ho⟩
theorem RowsS.shape (h : RowsS R w S base e v l) : ∃ A c, v = .slice A l.length c := by
  obtain ⟨xs, ho, _⟩ := h
  exact own_shape ho
theorem RowsS.keep (hR : Stable R) (h : RowsS R w S base e v l) (hs : Ag S w w') (hb : ∀ i, base ≤ i → i < w.heap.size → w'.heap[i]? = w.heap[i]?) : RowsS R w' S base e v l := by
  obtain ⟨xs, ho, hr⟩ := h
  exact ⟨xs, own_ag ho fun g hg => hb g (ho.lt g hg).1 (ho.lt g hg).2, fun k hk u hu => hR.agree (hr k hk u hu) hs⟩
theorem RowsS.reads (hR : Stable R) (h : RowsS R w S base e v l) {T : Nat → Prop} (hS : ∀ b, S b → T b) (hT : ∀ b, base ≤ b → b < w.heap.size → T b) : RSl R w T v l := by
  obtain ⟨xs, ho, hr⟩ := h
  exact reads_of_own ho rfl (fun g hg => hT g (ho.lt g hg).1 (ho.lt g hg).2) fun k hk u hu => hR.sub (hr k hk u hu) hS
/-- One value more. -/
theorem RowsS.snoc (hR : Stable R) {xs : List Value} {u : Value} {x : α} (hx : xs.length = l.length) (hr : ∀ (k : Nat) (h : k < l.length) (u : Value), xs[k]? = some u → R w S u l[k])
    (hu : R w S u x) (ha : Ag S w w') (ho' : w'.ownsRow base e 1 v' (l.length + 1) (xs ++ [u])) : RowsS R w' S base e v' (l ++ [x]) := by
  refine ⟨xs ++ [u], by rw [List.length_append]; exact ho', fun k hk y hy => ?_⟩
  rcases Nat.lt_or_ge k l.length with h1 | h1
  · rw [List.getElem?_append_left (by omega)] at hy
    rw [List.getElem_append_left h1]
    exact hR.agree (hr k h1 y hy) ha
  · have hk' : k = l.length := by simp at hk; omega
    subst hk'
    rw [List.getElem?_append_right (by omega), hx] at hy
    simp at hy
    subst hy
    have := hR.agree hu ha
    simpa using this
end
end Go.Proofs.Ytjmenkjmghmkpaa
