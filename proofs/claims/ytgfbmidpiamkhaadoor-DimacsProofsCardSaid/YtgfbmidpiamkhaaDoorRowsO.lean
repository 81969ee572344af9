/- Rows of the call's own in a block of its own: each row in a block of its own. No function of the program is in sight. -/
import Derived.Test.YtgfbmidpiamkhaaDoorQue
import Derived.RegionTactic
import Derived.OwnWalk
namespace Go.Proofs.YtgfbmidpiamkhaaDoor
open Go.RowKit

theorem own_ag {w w' : World} {base : Nat} {e : TypeId} {size : Nat} {v : Value} {n : Nat} {xs : List Value} (h : w.ownsRow base e size v n xs) (hb : ∀ g, v.ownBlock = some g → w'.heap[g]? = w.heap[g]?) : w'.ownsRow base e size v n xs := by
  refine ⟨h.1, ?_⟩
  rcases h.2 with h0 | ⟨g, cap, cur, rfl, h2, h3, h4⟩
  · exact .inl h0
  · exact .inr ⟨g, cap, cur, rfl, h2, (hb g rfl).trans h3, h4⟩
theorem own_block {w : World} {base : Nat} {e : TypeId} {v : Value} {n : Nat} {xs : List Value} (h : w.ownsRow base e 1 v n xs) (hn : 0 < n) : ∃ g c, v = .slice (some ⟨g, 0, none⟩) n c ∧ base ≤ g ∧ g < w.heap.size := by
  rcases h.2 with ⟨_, h0⟩ | ⟨g, cap, cur, rfl, h1, h2, _⟩
  · omega
  · exact ⟨g, cap, rfl, h1, (Array.getElem?_eq_some_iff.1 h2).1⟩
/-- Block O holds the slices vs; each is a row of its own, which holds ls (encoded by f). -/
structure RowsO {α : Type} (f : α → Value) (w : World) (O : Nat) (et ei : TypeId) (vs : List Value) (ls : List (List α)) : Prop where
  blk : VBlk w O et vs
  len : vs.length = ls.length
  own : ∀ (k : Nat) (v : Value) (l : List α), vs[k]? = some v → ls[k]? = some l → w.ownsRow (O + 1) ei 1 v l.length (l.map f)
  far : ∀ (j k : Nat) (u v : Value), j ≠ k → vs[j]? = some u → vs[k]? = some v → u.ownBlock = none ∨ u.ownBlock ≠ v.ownBlock
section
variable {α : Type} {f : α → Value} {w w' : World} {O : Nat} {et ei : TypeId} {vs : List Value} {ls : List (List α)}
theorem RowsO.keep (h : RowsO f w O et ei vs ls) (hb : ∀ i, O ≤ i → i < w.heap.size → w'.heap[i]? = w.heap[i]?) : RowsO f w' O et ei vs ls :=
  ⟨(hb O (Nat.le_refl _) h.blk.lt).trans h.blk, h.len, fun k v l hv hl => own_ag (h.own k v l hv hl) fun g hg => by
    have := (h.own k v l hv hl).lt g hg
    exact hb g (by omega) this.2, h.far⟩
theorem RowsO.up (h : RowsO f w O et ei vs ls) (hb : Below w.heap.size w w') : RowsO f w' O et ei vs ls := h.keep fun i _ hi => hb.block i hi
theorem RowsO.made (w : World) (f : α → Value) (et ei : TypeId) (n : Nat) : RowsO f (w.alloc (.cells (madeCells #[.slice none 0 0] n) et)) w.heap.size et ei (List.replicate n (.slice none 0 0)) (List.replicate n []) := by
  refine ⟨vblk_made _ _ _ _, by simp, fun k v l hv hl => ?_, fun j k u v _ hu _ => ?_⟩
  · rw [List.getElem?_replicate] at hv hl
    by_cases hk : k < n
    · rw [if_pos hk] at hv hl
      cases hv; cases hl; exact World.ownsRow_nil _ _ _ _
    · rw [if_neg hk] at hv; cases hv
  · simp only [List.getElem?_replicate] at hu
    split at hu
    · cases hu; exact .inl rfl
    · cases hu
/-- One value more in row k. -/
theorem RowsO.push (h : RowsO f w O et ei vs ls) {k : Nat} {v v' : Value} {l : List α} {x : α} {w1 w7 : World} (hv : vs[k]? = some v) (hl : ls[k]? = some l)
    (h1 : ∀ i, i < w.heap.size → w1.heap[i]? = w.heap[i]?) (hs : w.heap.size ≤ w1.heap.size) (hg : w1.grownBy w7 v.ownBlock) (ho : w7.ownsRow (O + 1) ei 1 v' (l.length + 1) (l.map f ++ [f x])) (hat : v'.ownBlock = v.ownBlock ∨ v'.ownBlock = some w1.heap.size) :
    RowsO f (w7.setCell ⟨O, k, none⟩ v') O et ei (vs.set k v') (ls.set k (l ++ [x])) := by
  have hk : k < vs.length := (List.getElem?_eq_some_iff.1 hv).1
  have hO : O < w.heap.size := h.blk.lt
  have hvO : some O ≠ v.ownBlock := fun e => by have := (h.own k v l hv hl).lt O e.symm; omega
  have hb7 : VBlk w7 O et vs := (hg.block O (by omega) hvO).trans ((h1 O hO).trans h.blk)
  refine ⟨hb7.set k v', by simp [h.len], fun j u m hu hm => ?_, fun i j u u' hij hu hu' => ?_⟩
  · rw [List.getElem?_set] at hu hm
    by_cases hjk : k = j
    · subst hjk
      rw [if_pos rfl, if_pos hk] at hu
      rw [if_pos rfl, if_pos (by rw [← h.len]; exact hk)] at hm
      cases hu; cases hm
      have ho' : w7.ownsRow (O + 1) ei 1 v' (l ++ [x]).length ((l ++ [x]).map f) := by simpa using ho
      refine own_ag ho' fun g hg' => Below.heap_setCell w7 ⟨O, k, none⟩ v' g fun e => ?_
      have := (ho'.lt g hg').1
      have e' : g = O := e
      omega
    · rw [if_neg hjk] at hu hm
      have ho' := h.own j u m hu hm
      refine own_ag ho' fun g hg' => ?_
      have hgl := ho'.lt g hg'
      refine (Below.heap_setCell w7 ⟨O, k, none⟩ v' g fun e => ?_).trans ((hg.block g (by omega) fun e => ?_).trans (h1 g hgl.2))
      · have e' : g = O := e
        omega
      · rcases h.far j k u v (fun e => hjk e.symm) hu hv with h2 | h2
        · rw [hg'] at h2; cases h2
        · rw [hg'] at h2; exact h2 e
  · rw [List.getElem?_set] at hu hu'
    by_cases hik : k = i
    · subst hik
      rw [if_pos rfl, if_pos hk] at hu
      rw [if_neg hij] at hu'
      cases hu
      rcases hat with e | e
      · rw [e]; exact h.far k j v u' hij hv hu'
      · rw [e]
        refine .inr fun e2 => ?_
        have hj : j < ls.length := by rw [← h.len]; exact (List.getElem?_eq_some_iff.1 hu').1
        have := ((h.own j u' ls[j] hu' (List.getElem?_eq_getElem hj)).lt _ e2.symm).2
        omega
    · rw [if_neg hik] at hu
      by_cases hjk : k = j
      · subst hjk
        rw [if_pos rfl, if_pos hk] at hu'
        cases hu'
        rcases hat with e | e
        · rw [e]; exact h.far i k u v hij hu hv
        · rw [e]
          refine .inr fun e2 => ?_
          have hi : i < ls.length := by rw [← h.len]; exact (List.getElem?_eq_some_iff.1 hu).1
          have := ((h.own i u ls[i] hu (List.getElem?_eq_getElem hi)).lt _ e2).2
          omega
      · rw [if_neg hjk] at hu'
        exact h.far i j u u' hij hu hu'
theorem RowsO.reads {R : Rd α} (hR : ∀ w S x, R w S (f x) x) (h : RowsO f w O et ei vs ls) {S : Nat → Prop} (hS : ∀ b, O ≤ b → b < w.heap.size → S b) (hn : ls.length ≤ 1000000) : RSl (RSl R) w S (.slice (some ⟨O, 0, none⟩) ls.length ls.length) ls :=
  rows_block h.blk (hS O (Nat.le_refl _) h.blk.lt) rfl hn h.len fun i hi u hu => by
    have ho := h.own i u ls[i] hu (List.getElem?_eq_getElem hi)
    exact reads_of_own ho rfl (fun g hg => by have := ho.lt g hg; exact hS g (by omega) this.2) fun k hk u' hu' => by
      rw [List.getElem?_map, List.getElem?_eq_getElem hk] at hu'
      cases hu'
      exact hR _ _ _
theorem RowsO.row (h : RowsO f w O et ei vs ls) {k : Nat} (hk : k < ls.length) : ∃ A c, vs[k]? = some (.slice A ls[k].length c) ∧ w.cell? ⟨O, k, none⟩ = some (.slice A ls[k].length c) ∧ w.ownsRow (O + 1) ei 1 (.slice A ls[k].length c) ls[k].length (ls[k].map f) := by
  have hkv : k < vs.length := by rw [h.len]; exact hk
  have ho := h.own k vs[k] ls[k] (List.getElem?_eq_getElem hkv) (List.getElem?_eq_getElem hk)
  obtain ⟨A, c, e⟩ := own_shape ho
  rw [e] at ho
  have hv : vs[k]? = some (.slice A ls[k].length c) := by rw [List.getElem?_eq_getElem hkv, e]
  exact ⟨A, c, hv, h.blk.cell hv, ho⟩
end
abbrev New (w w' : World) : Nat → Prop := fun b => w.heap.size ≤ b ∧ b < w'.heap.size
/-- Values that were put together one by one; what they lead to lies elsewhere, from block base on. -/
abbrev Oth (w : World) (base : Nat) (v : Value) : Nat → Prop := fun b => base ≤ b ∧ b < w.heap.size ∧ v.ownBlock ≠ some b
def RowsC {α : Type} (R : Rd α) (w : World) (base : Nat) (e : TypeId) (v : Value) (l : List α) : Prop :=
  ∃ xs, w.ownsRow base e 1 v l.length xs ∧ ∀ (k : Nat) (h : k < l.length) (u : Value), xs[k]? = some u → R w (Oth w base v) u l[k]
section
variable {α : Type} {R : Rd α} {w w1 w' : World} {base : Nat} {e : TypeId} {v v' : Value} {l : List α}
theorem RowsC.nil_ (R : Rd α) (w : World) (base : Nat) (e : TypeId) : RowsC R w base e (.slice none 0 0) [] := ⟨[], World.ownsRow_nil _ _ _ _, fun k h => absurd h (by simp)⟩
theorem RowsC.own (h : RowsC R w base e v l) : ∃ xs, w.ownsRow base e 1 v l.length xs := by obtain ⟨xs, ho, _⟩ := h; exact ⟨xs, ho⟩
theorem RowsC.reads (hR : Stable R) (h : RowsC R w base e v l) : RSl R w (fun b => base ≤ b ∧ b < w.heap.size) v l := by
  obtain ⟨xs, ho, hr⟩ := h
  exact reads_of_own ho rfl (fun g hg => ho.lt g hg) fun k hk u hu => hR.sub (hr k hk u hu) fun b hb => ⟨hb.1, hb.2.1⟩
theorem RowsC.keep (hR : Stable R) (h : RowsC R w base e v l) (hs : w.heap.size ≤ w'.heap.size) (hb : ∀ i, base ≤ i → i < w.heap.size → w'.heap[i]? = w.heap[i]?) : RowsC R w' base e v l := by
  obtain ⟨xs, ho, hr⟩ := h
  exact ⟨xs, own_ag ho fun g hg => hb g (ho.lt g hg).1 (ho.lt g hg).2, fun k hk u hu => hR _ _ _ _ _ _ (hr k hk u hu) (fun b h => hb b h.1 h.2.1) fun b h => ⟨h.1, Nat.lt_of_lt_of_le h.2.1 hs, h.2.2⟩⟩
theorem RowsC.up (hR : Stable R) (h : RowsC R w base e v l) (hb : Below w.heap.size w w') : RowsC R w' base e v l := h.keep hR hb.size fun i _ hi => hb.block i hi
theorem RowsC.setCell (hR : Stable R) (h : RowsC R w base e v l) {p : Addr} (hp : p.block < base) (u : Value) : RowsC R (w.setCell p u) base e v l :=
  h.keep hR (by simp [World.setCell]) fun i hi _ => Below.heap_setCell w p u i (fun e => by rw [e] at hi; omega)
theorem RowsC.alloc (hR : Stable R) (h : RowsC R w base e v l) (o : Obj) : RowsC R (w.alloc o) base e v l := h.up hR (below_alloc _ _)
theorem RowsC.shape (h : RowsC R w base e v l) : ∃ A c, v = .slice A l.length c := by
  obtain ⟨xs, ho, _⟩ := h
  exact own_shape ho
/-- One value more. -/
theorem RowsC.snoc (hR : Stable R) {xs : List Value} {u : Value} {x : α} (ho : w.ownsRow base e 1 v l.length xs) (hr : ∀ (k : Nat) (h : k < l.length) (u : Value), xs[k]? = some u → R w (Oth w base v) u l[k])
    (hu : R w (Oth w base v) u x) (hb : Below w.heap.size w w1) (hg : w1.grownBy w' v.ownBlock) (ho' : w'.ownsRow base e 1 v' (l.length + 1) (xs ++ [u])) (hat : v'.ownBlock = v.ownBlock ∨ v'.ownBlock = some w1.heap.size) : RowsC R w' base e v' (l ++ [x]) := by
  have hx : xs.length = l.length := by simpa using ho.1
  have hag : Ag (Oth w base v) w w' := fun b h => (hg.block b (Nat.lt_of_lt_of_le h.2.1 hb.size) fun e => h.2.2 e.symm).trans (hb.block b h.2.1)
  have hsub : ∀ b, Oth w base v b → Oth w' base v' b := fun b h => ⟨h.1, Nat.lt_of_lt_of_le h.2.1 (Nat.le_trans hb.size hg.size), fun e => by
    rcases hat with h2 | h2
    · rw [h2] at e; exact h.2.2 e
    · rw [h2] at e
      cases e
      have := hb.size
      omega⟩
  refine ⟨xs ++ [u], by rw [List.length_append]; exact ho', fun k hk y hy => ?_⟩
  rcases Nat.lt_or_ge k l.length with h1 | h1
  · rw [List.getElem?_append_left (by omega)] at hy
    rw [List.getElem_append_left h1]
    exact hR _ _ _ _ _ _ (hr k h1 y hy) hag hsub
  · have hk' : k = l.length := by simp at hk; omega
    subst hk'
    rw [List.getElem?_append_right (by omega), hx] at hy
    simp at hy
    subst hy
    have := hR _ _ _ _ _ _ hu hag hsub
    simpa using this
end
abbrev bVs (l : List Bool) : List Value := l.map Value.bool
theorem VBlk.bool {w : World} {b : Nat} {t : TypeId} {l : List Bool} (h : VBlk w b t (bVs l)) {i : Nat} (hi : i < l.length) : w.cell? ⟨b, i, none⟩ = some (.bool (l.getD i false)) := h.cell (by simp [hi, List.getD])
theorem VBlk.setBool {w : World} {b : Nat} {t : TypeId} {l : List Bool} (h : VBlk w b t (bVs l)) (i : Nat) (x : Bool) : VBlk (w.setCell ⟨b, i, none⟩ (.bool x)) b t (bVs (l.set i x)) := by
  have := h.set i (.bool x)
  rwa [← List.map_set] at this
/-- append onto a row of the call's own, at a step of a region that draws. -/
theorem step_append_own {P : Program} {w : World} {ops : Array Oper} {o : Oper} {a : Act} {K : Act → World → Prop} {Q : Exit → Act → World → Prop} {E : Prop} (hgd : o.guard = none) (s x : Operand) (t : TypeId)
    (ho : o.op = .call { callee := .builtin .append, args := #[s, x], argTypes := #[t, t] }) {base : Nat} {e : TypeId} {bytes : Nat} (he : Elem1 P t e bytes) (v : Value) (n : Nat) (xs : List Value) (hs : a.eval s = v) (hown : w.ownsRow base e 1 v n xs)
    (ad : Addr) (m c : Nat) (news : List Value) (hx : a.eval x = .slice (some ad) m c) (hl : news.length = m) (hc : ∀ j u, news[j]? = some u → w.cell? (ad.add j) = some u) (h1 : ∀ u ∈ news, u.oneCell' = true) (hn : n + m < 1000000000000) (hbase : base ≤ w.heap.size)
    (h : ∀ v' w', w'.ownsRow base e 1 v' (n + m) (xs ++ news) → w.grownBy w' v.ownBlock → (v'.ownBlock = v.ownBlock ∨ v'.ownBlock = some w.heap.size) → K (a.put o.dst v') w') :
    if Region.wanted o (yielded ops a.tmps) = true then Oper.wp P o a w K Q else E := by
  have hw : Region.wanted o (yielded ops a.tmps) = true := by simp [Region.wanted, hgd]
  rw [if_pos hw]
  obtain ⟨ht, h64, i, z, hi, hz, hsz, hby, hzs⟩ := he
  obtain ⟨v', w', hr, h2, h3, h4, h5⟩ := run_append_own_at (P := P) w base t o.type e i z 1 bytes ht hi hz hsz hby hzs (by omega) v n xs hown ad m c news (by omega) hc h1 (by unfold maxLen; omega) (by
    have : (n + m) * bytes ≤ 1000000000000 * 64 := Nat.mul_le_mul (by omega) h64
    omega) hbase
  unfold Oper.wp execOp
  simp only [ho, resolve, invoke, builtin, Sem.run_bind, Sem.run_pure, Result.andThen_ok, List.map_toArray, List.map_cons, List.map_nil, hs, hx, hr]
  exact h v' w' h2 h3 h5
end Go.Proofs.YtgfbmidpiamkhaaDoor
