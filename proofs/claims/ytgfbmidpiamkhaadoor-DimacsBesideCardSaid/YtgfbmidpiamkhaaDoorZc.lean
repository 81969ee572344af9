/- Blocks that are known whole; a queue: a slice that is taken from at its front and put to at its end. No function of the program is in sight. / Rows of the call's own in a block of its own: each row in a block of its own. No function of the program is in sight. / Clauses in memory: a row of rows of numbers; the last row is pushed to. -/
import Derived.ArgAppend
import Derived.RegionTactic
import Derived.OwnWalk
import Derived.Test.YtgfbmidpiamkhaaDoorZa
import Derived.Test.YtgfbmidpiamkhaaDoorZd
namespace Go.Proofs.YtgfbmidpiamkhaaDoor
open Go.RowKit

/-- Block b holds just the cells vs. -/
def VBlk (w : World) (b : Nat) (t : TypeId) (vs : List Value) : Prop := w.heap[b]? = some (.cells vs.toArray t (0, 0))
section
variable {w w' : World} {b : Nat} {t : TypeId} {vs : List Value}
theorem VBlk.lt (h : VBlk w b t vs) : b < w.heap.size := (Array.getElem?_eq_some_iff.1 h).1
theorem VBlk.cell (h : VBlk w b t vs) {i : Nat} {u : Value} (hi : vs[i]? = some u) : w.cell? ⟨b, i, none⟩ = some u := by
  rw [cell_of_row _ _ i _ _ _ h]; simpa using hi
theorem VBlk.frozen (h : VBlk w b t vs) (i : Nat) : w.frozen? ⟨b, i, none⟩ = false := by
  unfold VBlk at h; simp [World.frozen?, h]
theorem VBlk.set (h : VBlk w b t vs) (i : Nat) (u : Value) : VBlk (w.setCell ⟨b, i, none⟩ u) b t (vs.set i u) := by
  unfold VBlk at h ⊢
  simp [World.setCell, Array.getElem?_modify, h]
theorem VBlk.below {B : Nat} (h : VBlk w b t vs) (hb : Below B w w') (hg : b < B) : VBlk w' b t vs := (hb.block b hg).trans h
theorem VBlk.up (h : VBlk w b t vs) (hb : Below w.heap.size w w') : VBlk w' b t vs := (hb.block b h.lt).trans h
theorem VBlk.alloc (h : VBlk w b t vs) (o : Obj) : VBlk (w.alloc o) b t vs := (Below.heap_alloc w o b h.lt).trans h
theorem VBlk.far (h : VBlk w b t vs) {p : Addr} (hp : b ≠ p.block) (u : Value) : VBlk (w.setCell p u) b t vs := (Below.heap_setCell w p u b hp).trans h
theorem VBlk.drewN (h : VBlk w b t vs) (n : Nat) : VBlk (w.drewN n) b t vs := h
theorem VBlk.grown {row : Option Nat} (h : VBlk w b t vs) (hb : w.grownBy w' row) (hg : some b ≠ row) : VBlk w' b t vs := (hb.block b h.lt hg).trans h
theorem VBlk.ag {S : Nat → Prop} (h : VBlk w b t vs) (hb : Ag S w w') (hg : S b) : VBlk w' b t vs := (hb b hg).trans h
theorem vblk_new (w : World) (t : TypeId) (cs : Array Value) : VBlk (w.alloc (.cells cs t)) w.heap.size t cs.toList := heap_alloc_new w _
theorem vblk_made (w : World) (t : TypeId) (z : Value) (n : Nat) : VBlk (w.alloc (.cells (madeCells #[z] n) t)) w.heap.size t (List.replicate n z) := by
  have := vblk_new w t (madeCells #[z] n)
  rwa [toList_madeCells_one] at this
/-- Numbers in a block. -/
abbrev iVs (l : List Int) : List Value := l.map (Value.int .i64)
theorem VBlk.int {l : List Int} (h : VBlk w b t (iVs l)) {i : Nat} (hi : i < l.length) : w.cell? ⟨b, i, none⟩ = some (.int .i64 l[i]) := h.cell (by simp [hi])
theorem VBlk.setInt {l : List Int} (h : VBlk w b t (iVs l)) (i : Nat) (x : Int) : VBlk (w.setCell ⟨b, i, none⟩ (.int .i64 x)) b t (iVs (l.set i x)) := by
  have := h.set i (.int .i64 x)
  rwa [← List.map_set] at this
theorem VBlk.reads {l : List Int} {S : Nat → Prop} (h : VBlk w b t (iVs l)) (hS : S b) (hn : l.length ≤ 1000000) : RInts w S (.slice (some ⟨b, 0, none⟩) l.length l.length) l := ints_block h hS rfl hn
end

/-- The slice v is the row xs: either it has no room behind it, or it is a row of the call's own. -/
def Que (w : World) (base : Nat) (e : TypeId) (v : Value) (xs : List Value) : Prop :=
  base ≤ w.heap.size ∧ ((∃ A, v = .slice A xs.length xs.length ∧ (0 < xs.length → ∃ b off, A = some ⟨b, off, none⟩ ∧ base ≤ b ∧ b < w.heap.size ∧ ∀ j u, xs[j]? = some u → w.cell? ⟨b, off + j, none⟩ = some u)) ∨ w.ownsRow base e 1 v xs.length xs)
section
variable {w w' : World} {base : Nat} {e : TypeId} {v : Value} {xs : List Value}
theorem Que.shape (h : Que w base e v xs) : ∃ A c, v = .slice A xs.length c := by
  rcases h.2 with ⟨A, hv, _⟩ | h
  · exact ⟨A, _, hv⟩
  · exact own_shape h
/-- Where the queue lies. -/
theorem Que.at_ (h : Que w base e v xs) (hp : 0 < xs.length) : ∃ b off c, v = .slice (some ⟨b, off, none⟩) xs.length c ∧ xs.length ≤ c ∧ base ≤ b ∧ b < w.heap.size ∧ ∀ j u, xs[j]? = some u → w.cell? ⟨b, off + j, none⟩ = some u := by
  rcases h.2 with ⟨A, rfl, h1⟩ | h
  · obtain ⟨b, off, rfl, h2, h3, h4⟩ := h1 hp
    exact ⟨b, off, _, rfl, Nat.le_refl _, h2, h3, h4⟩
  · rcases h.2 with ⟨_, h0⟩ | ⟨g, cap, cur, rfl, hg, hh, hnc, _⟩
    · omega
    · refine ⟨g, 0, cap, rfl, hnc, hg, (Array.getElem?_eq_some_iff.1 hh).1, fun j u hu => ?_⟩
      have := h.cells (g := g) rfl j u hu
      rwa [add_none] at this
theorem Que.keep (h : Que w base e v xs) (hs : w.heap.size ≤ w'.heap.size) (hb : ∀ i, base ≤ i → i < w.heap.size → w'.heap[i]? = w.heap[i]?) : Que w' base e v xs := by
  refine ⟨Nat.le_trans h.1 hs, ?_⟩
  rcases h.2 with ⟨A, hv, h1⟩ | h
  · refine .inl ⟨A, hv, fun hp => ?_⟩
    obtain ⟨b, off, e', h2, h3, h4⟩ := h1 hp
    exact ⟨b, off, e', h2, Nat.lt_of_lt_of_le h3 hs, fun j u hu => (World.cell?_of_block (a := ⟨b, off + j, none⟩) (hb b h2 h3)).trans (h4 j u hu)⟩
  · refine .inr ⟨h.1, ?_⟩
    rcases h.2 with h0 | ⟨g, cap, cur, h1, h2, h3, h4⟩
    · exact .inl h0
    · exact .inr ⟨g, cap, cur, h1, h2, (hb g h2 (Array.getElem?_eq_some_iff.1 h3).1).trans h3, h4⟩
theorem Que.alloc (h : Que w base e v xs) (o : Obj) : Que (w.alloc o) base e v xs := h.keep (by simp) fun i _ hi => Below.heap_alloc w o i hi
theorem Que.setCell (h : Que w base e v xs) {p : Addr} (hp : p.block < base) (u : Value) : Que (w.setCell p u) base e v xs :=
  h.keep (by simp [World.setCell]) fun i hi _ => Below.heap_setCell w p u i (fun e => by rw [e] at hi; omega)
theorem que_new (w : World) (e : TypeId) (u : Value) {base : Nat} (hb : base ≤ w.heap.size) : Que (w.alloc (.cells #[u] e)) base e (.slice (some ⟨w.heap.size, 0, none⟩) 1 1) [u] := by
  refine ⟨by simp; omega, .inl ⟨_, rfl, fun _ => ⟨w.heap.size, 0, rfl, hb, by simp, fun j x hx => ?_⟩⟩⟩
  rw [Nat.zero_add]
  exact (vblk_new w e #[u]).cell hx
/-- The front is taken off. -/
theorem Que.tail {x : Value} {b off c : Nat} (h : Que w base e (.slice (some ⟨b, off, none⟩) (x :: xs).length c) (x :: xs)) (hc : ∀ j u, (x :: xs)[j]? = some u → w.cell? ⟨b, off + j, none⟩ = some u) (h2 : base ≤ b) (h3 : b < w.heap.size) (A : Option Addr) (hA : 0 < xs.length → A = some ⟨b, off + 1, none⟩) :
    Que w base e (.slice A xs.length xs.length) xs :=
  ⟨h.1, .inl ⟨A, rfl, fun hp => ⟨b, off + 1, hA hp, h2, h3, fun j u hu => by rw [show off + 1 + j = off + (j + 1) by omega]; exact hc (j + 1) u (by simpa using hu)⟩⟩⟩
theorem own_mono {w : World} {base base' : Nat} {e : TypeId} {size : Nat} {v : Value} {n : Nat} {xs : List Value} (h : w.ownsRow base e size v n xs) (hb : base' ≤ base) : w.ownsRow base' e size v n xs :=
  ⟨h.1, h.2.elim .inl fun ⟨g, cap, cur, h1, h2, h3⟩ => .inr ⟨g, cap, cur, h1, Nat.le_trans hb h2, h3⟩⟩
/-- append of one value, which lies alone in a block that was just made, to a queue. -/
theorem wpList_que {P : Program} {ops : Array Oper} {rest : List Oper} {o : Oper} {a : Act} {Q : Exit → Act → World → Prop} (hgd : o.guard = none) (s x : Operand) (t : TypeId)
    (ho : o.op = .call { callee := .builtin .append, args := #[s, x], argTypes := #[t, t] }) {bytes : Nat} (he : Elem1 P t e bytes)
    (hs : a.eval s = v) (h : Que w base e v xs) (g : Nat) (u : Value) (hx : a.eval x = .slice (some ⟨g, 0, none⟩) 1 1)
    (hc : w.cell? ⟨g, 0, none⟩ = some u) (h1 : u.oneCell' = true) (hn : xs.length < 1000000000000)
    (hK : ∀ v' w', Que w' base e v' (xs ++ [u]) → Below base w w' → wpList P ops Q rest (a.put o.dst v') w') :
    wpList P ops Q (o :: rest) a w := by
  have hlen : (xs ++ [u]).length = xs.length + 1 := by simp
  rcases h.2 with ⟨A, rfl, h2⟩ | hown
  · obtain ⟨ht, h64, i, z, hi, hz, hsz, hby, hzs⟩ := he
    by_cases hp : 0 < xs.length
    · obtain ⟨b, off, rfl, h3, h4, h5⟩ := h2 hp
      refine wpList_append_grows w hgd s x t ho e i z 1 bytes ht hi hz hsz hby hzs (by omega) (some ⟨b, off, none⟩) xs.length xs.length xs hs (fun e => by cases e) (by omega) (fun b' hb' j u' hu' => ?_) ⟨g, 0, none⟩ 1 1 [u] hx rfl ?_ ?_ (by omega) (by unfold maxLen; omega) ?_ fun v' w' ho' hg' => ?_
      · cases hb'; rw [add_none]; exact h5 j u' hu'
      · intro j u' hu
        match j with
        | 0 => simp at hu; subst hu; exact hc
        | j + 1 => simp at hu
      · intro u' hu; simp at hu; subst hu; exact h1
      · have : (xs.length + 1) * bytes ≤ 1000000000000 * 64 := Nat.mul_le_mul (by omega) h64
        omega
      · refine hK v' w' ⟨Nat.le_trans h.1 hg'.size, .inr ?_⟩ ((Below.refl _ _).grown hg' h.1 (by simp))
        rw [hlen]
        exact own_mono ho' h.1
    · have hx0 : xs = [] := List.eq_nil_of_length_eq_zero (by omega)
      subst hx0
      cases A with
      | none =>
        refine wpList_append_own_at w hgd s x t ho base e i z 1 bytes ht hi hz hsz hby hzs (by omega) (.slice none 0 0) 0 [] hs (World.ownsRow_nil w _ e 1) ⟨g, 0, none⟩ 1 1 [u] hx rfl ?_ ?_ (by unfold maxLen; omega) (by omega) h.1 fun v' w' h2 h3 _ h5 => hK v' w' ⟨Nat.le_trans h.1 h3.size, .inr (by simpa using h2)⟩ ((Below.refl _ _).grown h3 h.1 (by simp [Value.ownBlock]))
        · intro j u' hu
          match j with
          | 0 => simp at hu; subst hu; exact hc
          | j + 1 => simp at hu
        · intro u' hu; simp at hu; subst hu; exact h1
      | some b =>
        refine wpList_append_grows w hgd s x t ho e i z 1 bytes ht hi hz hsz hby hzs (by omega) (some b) 0 0 [] hs (fun e => by cases e) rfl (fun b' hb' j u' hu' => by simp at hu') ⟨g, 0, none⟩ 1 1 [u] hx rfl ?_ ?_ (by omega) (by unfold maxLen; omega) (by omega) fun v' w' ho' hg' => hK v' w' ⟨Nat.le_trans h.1 hg'.size, .inr ?_⟩ ((Below.refl _ _).grown hg' h.1 (by simp))
        · intro j u' hu
          match j with
          | 0 => simp at hu; subst hu; exact hc
          | j + 1 => simp at hu
        · intro u' hu; simp at hu; subst hu; exact h1
        · simpa using own_mono ho' h.1
  · refine wpList_push hgd s x t ho he hs hown g u hx hc h1 hn h.1 fun v' w' h2 h3 h4 => hK v' w' ⟨Nat.le_trans h.1 h3.size, .inr (by rw [hlen]; exact h2)⟩ ((Below.refl _ _).grown h3 h.1 fun k hk => (hown.lt k hk).1)
end
end Go.Proofs.YtgfbmidpiamkhaaDoor

namespace Go.Proofs.YtgfbmidpiamkhaaDoor
open Go.RowKit

theorem own_ag {w w' : World} {base : Nat} {e : TypeId} {size : Nat} {v : Value} {n : Nat} {xs : List Value} (h : w.ownsRow base e size v n xs) (hb : ∀ g, v.ownBlock = some g → w'.heap[g]? = w.heap[g]?) : w'.ownsRow base e size v n xs := by
  refine ⟨h.1, ?_⟩
  rcases h.2 with h0 | ⟨g, cap, cur, rfl, h2, h3, h4⟩
  · exact .inl h0
  · exact .inr ⟨g, cap, cur, rfl, h2, (hb g rfl).trans h3, h4⟩
theorem own_block {w : World} {base : Nat} {e : TypeId} {v : Value} {n : Nat} {xs : List Value} (h : w.ownsRow base e 1 v n xs) (hn : 0 < n) : ∃ g c, v = .slice (some ⟨g, 0, none⟩) n c ∧ base ≤ g ∧ g < w.heap.size := by
  rcases h.2 with ⟨_, h0⟩ | ⟨g, cap, cur, rfl, h1, h2, _⟩
  · omega
  · exact ⟨g, cap, rfl, h1, (Array.getElem?_eq_some_iff.1 h2).1⟩
/-- Block O holds the slices vs; each is a row of its own, which holds ls (encoded by f). -/
structure RowsO {α : Type} (f : α → Value) (w : World) (O : Nat) (et ei : TypeId) (vs : List Value) (ls : List (List α)) : Prop where
  blk : VBlk w O et vs
  len : vs.length = ls.length
  own : ∀ (k : Nat) (v : Value) (l : List α), vs[k]? = some v → ls[k]? = some l → w.ownsRow (O + 1) ei 1 v l.length (l.map f)
  far : ∀ (j k : Nat) (u v : Value), j ≠ k → vs[j]? = some u → vs[k]? = some v → u.ownBlock = none ∨ u.ownBlock ≠ v.ownBlock
section
variable {α : Type} {f : α → Value} {w w' : World} {O : Nat} {et ei : TypeId} {vs : List Value} {ls : List (List α)}
theorem RowsO.keep (h : RowsO f w O et ei vs ls) (hb : ∀ i, O ≤ i → i < w.heap.size → w'.heap[i]? = w.heap[i]?) : RowsO f w' O et ei vs ls :=
  ⟨(hb O (Nat.le_refl _) h.blk.lt).trans h.blk, h.len, fun k v l hv hl => own_ag (h.own k v l hv hl) fun g hg => by
    have := (h.own k v l hv hl).lt g hg
    exact hb g (by omega) this.2, h.far⟩
theorem RowsO.up (h : RowsO f w O et ei vs ls) (hb : Below w.heap.size w w') : RowsO f w' O et ei vs ls := h.keep fun i _ hi => hb.block i hi
theorem RowsO.made (w : World) (f : α → Value) (et ei : TypeId) (n : Nat) : RowsO f (w.alloc (.cells (madeCells #[.slice none 0 0] n) et)) w.heap.size et ei (List.replicate n (.slice none 0 0)) (List.replicate n []) := by
  refine ⟨vblk_made _ _ _ _, by simp, fun k v l hv hl => ?_, fun j k u v _ hu _ => ?_⟩
  · rw [List.getElem?_replicate] at hv hl
    by_cases hk : k < n
    · rw [if_pos hk] at hv hl
      cases hv; cases hl; exact World.ownsRow_nil _ _ _ _
    · rw [if_neg hk] at hv; cases hv
  · simp only [List.getElem?_replicate] at hu
    split at hu
    · cases hu; exact .inl rfl
    · cases hu
/-- One value more in row k. -/
theorem RowsO.push (h : RowsO f w O et ei vs ls) {k : Nat} {v v' : Value} {l : List α} {x : α} {w1 w7 : World} (hv : vs[k]? = some v) (hl : ls[k]? = some l)
    (h1 : ∀ i, i < w.heap.size → w1.heap[i]? = w.heap[i]?) (hs : w.heap.size ≤ w1.heap.size) (hg : w1.grownBy w7 v.ownBlock) (ho : w7.ownsRow (O + 1) ei 1 v' (l.length + 1) (l.map f ++ [f x])) (hat : v'.ownBlock = v.ownBlock ∨ v'.ownBlock = some w1.heap.size) :
    RowsO f (w7.setCell ⟨O, k, none⟩ v') O et ei (vs.set k v') (ls.set k (l ++ [x])) := by
  have hk : k < vs.length := (List.getElem?_eq_some_iff.1 hv).1
  have hO : O < w.heap.size := h.blk.lt
  have hvO : some O ≠ v.ownBlock := fun e => by have := (h.own k v l hv hl).lt O e.symm; omega
  have hb7 : VBlk w7 O et vs := (hg.block O (by omega) hvO).trans ((h1 O hO).trans h.blk)
  refine ⟨hb7.set k v', by simp [h.len], fun j u m hu hm => ?_, fun i j u u' hij hu hu' => ?_⟩
  · rw [List.getElem?_set] at hu hm
    by_cases hjk : k = j
    · subst hjk
      rw [if_pos rfl, if_pos hk] at hu
      rw [if_pos rfl, if_pos (by rw [← h.len]; exact hk)] at hm
      cases hu; cases hm
      have ho' : w7.ownsRow (O + 1) ei 1 v' (l ++ [x]).length ((l ++ [x]).map f) := by simpa using ho
      refine own_ag ho' fun g hg' => Below.heap_setCell w7 ⟨O, k, none⟩ v' g fun e => ?_
      have := (ho'.lt g hg').1
      have e' : g = O := e
      omega
    · rw [if_neg hjk] at hu hm
      have ho' := h.own j u m hu hm
      refine own_ag ho' fun g hg' => ?_
      have hgl := ho'.lt g hg'
      refine (Below.heap_setCell w7 ⟨O, k, none⟩ v' g fun e => ?_).trans ((hg.block g (by omega) fun e => ?_).trans (h1 g hgl.2))
      · have e' : g = O := e
        omega
      · rcases h.far j k u v (fun e => hjk e.symm) hu hv with h2 | h2
        · rw [hg'] at h2; cases h2
        · rw [hg'] at h2; exact h2 e
  · rw [List.getElem?_set] at hu hu'
    by_cases hik : k = i
    · subst hik
      rw [if_pos rfl, if_pos hk] at hu
      rw [if_neg hij] at hu'
      cases hu
      rcases hat with e | e
      · rw [e]; exact h.far k j v u' hij hv hu'
      · rw [e]
        refine .inr fun e2 => ?_
        have hj : j < ls.length := by rw [← h.len]; exact (List.getElem?_eq_some_iff.1 hu').1
        have := ((h.own j u' ls[j] hu' (List.getElem?_eq_getElem hj)).lt _ e2.symm).2
        omega
    · rw [if_neg hik] at hu
      by_cases hjk : k = j
      · subst hjk
        rw [if_pos rfl, if_pos hk] at hu'
        cases hu'
        rcases hat with e | e
        · rw [e]; exact h.far i k u v hij hu hv
        · rw [e]
          refine .inr fun e2 => ?_
          have hi : i < ls.length := by rw [← h.len]; exact (List.getElem?_eq_some_iff.1 hu).1
          have := ((h.own i u ls[i] hu (List.getElem?_eq_getElem hi)).lt _ e2).2
          omega
      · rw [if_neg hjk] at hu'
        exact h.far i j u u' hij hu hu'
theorem RowsO.reads {R : Rd α} (hR : ∀ w S x, R w S (f x) x) (h : RowsO f w O et ei vs ls) {S : Nat → Prop} (hS : ∀ b, O ≤ b → b < w.heap.size → S b) (hn : ls.length ≤ 1000000) : RSl (RSl R) w S (.slice (some ⟨O, 0, none⟩) ls.length ls.length) ls :=
  rows_block h.blk (hS O (Nat.le_refl _) h.blk.lt) rfl hn h.len fun i hi u hu => by
    have ho := h.own i u ls[i] hu (List.getElem?_eq_getElem hi)
    exact reads_of_own ho rfl (fun g hg => by have := ho.lt g hg; exact hS g (by omega) this.2) fun k hk u' hu' => by
      rw [List.getElem?_map, List.getElem?_eq_getElem hk] at hu'
      cases hu'
      exact hR _ _ _
theorem RowsO.row (h : RowsO f w O et ei vs ls) {k : Nat} (hk : k < ls.length) : ∃ A c, vs[k]? = some (.slice A ls[k].length c) ∧ w.cell? ⟨O, k, none⟩ = some (.slice A ls[k].length c) ∧ w.ownsRow (O + 1) ei 1 (.slice A ls[k].length c) ls[k].length (ls[k].map f) := by
  have hkv : k < vs.length := by rw [h.len]; exact hk
  have ho := h.own k vs[k] ls[k] (List.getElem?_eq_getElem hkv) (List.getElem?_eq_getElem hk)
  obtain ⟨A, c, e⟩ := own_shape ho
  rw [e] at ho
  have hv : vs[k]? = some (.slice A ls[k].length c) := by rw [List.getElem?_eq_getElem hkv, e]
  exact ⟨A, c, hv, h.blk.cell hv, ho⟩
end
abbrev New (w w' : World) : Nat → Prop := fun b => w.heap.size ≤ b ∧ b < w'.heap.size
/-- Values that were put together one by one; what they lead to lies elsewhere, from block base on. -/
abbrev Oth (w : World) (base : Nat) (v : Value) : Nat → Prop := fun b => base ≤ b ∧ b < w.heap.size ∧ v.ownBlock ≠ some b
def RowsC {α : Type} (R : Rd α) (w : World) (base : Nat) (e : TypeId) (v : Value) (l : List α) : Prop :=
  ∃ xs, w.ownsRow base e 1 v l.length xs ∧ ∀ (k : Nat) (h : k < l.length) (u : Value), xs[k]? = some u → R w (Oth w base v) u l[k]
section
variable {α : Type} {R : Rd α} {w w1 w' : World} {base : Nat} {e : TypeId} {v v' : Value} {l : List α}
theorem RowsC.nil_ (R : Rd α) (w : World) (base : Nat) (e : TypeId) : RowsC R w base e (.slice none 0 0) [] := ⟨[], World.ownsRow_nil _ _ _ _, fun k h => absurd h (by simp)⟩
theorem RowsC.own (h : RowsC R w base e v l) : ∃ xs, w.ownsRow base e 1 v l.length xs := by obtain ⟨xs, ho, _⟩ := h; exact ⟨xs, ho⟩
theorem RowsC.reads (hR : Stable R) (h : RowsC R w base e v l) : RSl R w (fun b => base ≤ b ∧ b < w.heap.size) v l := by
  obtain ⟨xs, ho, hr⟩ := h
  exact reads_of_own ho rfl (fun g hg => ho.lt g hg) fun k hk u hu => hR.sub (hr k hk u hu) fun b hb => ⟨hb.1, hb.2.1⟩
theorem RowsC.keep (hR : Stable R) (h : RowsC R w base e v l) (hs : w.heap.size ≤ w'.heap.size) (hb : ∀ i, base ≤ i → i < w.heap.size → w'.heap[i]? = w.heap[i]?) : RowsC R w' base e v l := by
  obtain ⟨xs, ho, hr⟩ := h
  exact ⟨xs, own_ag ho fun g hg => hb g (ho.lt g hg).1 (ho.lt g hg).2, fun k hk u hu => hR _ _ _ _ _ _ (hr k hk u hu) (fun b h => hb b h.1 h.2.1) fun b h => ⟨h.1, Nat.lt_of_lt_of_le h.2.1 hs, h.2.2⟩⟩
theorem RowsC.up (hR : Stable R) (h : RowsC R w base e v l) (hb : Below w.heap.size w w') : RowsC R w' base e v l := h.keep hR hb.size fun i _ hi => hb.block i hi
theorem RowsC.setCell (hR : Stable R) (h : RowsC R w base e v l) {p : Addr} (hp : p.block < base) (u : Value) : RowsC R (w.setCell p u) base e v l :=
  h.keep hR (by simp [World.setCell]) fun i hi _ => Below.heap_setCell w p u i (fun e => by rw [e] at hi; omega)
theorem RowsC.alloc (hR : Stable R) (h : RowsC R w base e v l) (o : Obj) : RowsC R (w.alloc o) base e v l := h.up hR (below_alloc _ _)
theorem RowsC.shape (h : RowsC R w base e v l) : ∃ A c, v = .slice A l.length c := by
  obtain ⟨xs, ho, _⟩ := h
  exact own_shape ho
/-- One value more. -/
theorem RowsC.snoc (hR : Stable R) {xs : List Value} {u : Value} {x : α} (ho : w.ownsRow base e 1 v l.length xs) (hr : ∀ (k : Nat) (h : k < l.length) (u : Value), xs[k]? = some u → R w (Oth w base v) u l[k])
    (hu : R w (Oth w base v) u x) (hb : Below w.heap.size w w1) (hg : w1.grownBy w' v.ownBlock) (ho' : w'.ownsRow base e 1 v' (l.length + 1) (xs ++ [u])) (hat : v'.ownBlock = v.ownBlock ∨ v'.ownBlock = some w1.heap.size) : RowsC R w' base e v' (l ++ [x]) := by
  have hx : xs.length = l.length := by simpa using ho.1
  have hag : Ag (Oth w base v) w w' := fun b h => (hg.block b (Nat.lt_of_lt_of_le h.2.1 hb.size) fun e => h.2.2 e.symm).trans (hb.block b h.2.1)
  have hsub : ∀ b, Oth w base v b → Oth w' base v' b := fun b h => ⟨h.1, Nat.lt_of_lt_of_le h.2.1 (Nat.le_trans hb.size hg.size), fun e => by
    rcases hat with h2 | h2
    · rw [h2] at e; exact h.2.2 e
    · rw [h2] at e
      cases e
      have := hb.size
      omega⟩
  refine ⟨xs ++ [u], by rw [List.length_append]; exact ho', fun k hk y hy => ?_⟩
  rcases Nat.lt_or_ge k l.length with h1 | h1
  · rw [List.getElem?_append_left (by omega)] at hy
    rw [List.getElem_append_left h1]
    exact hR _ _ _ _ _ _ (hr k h1 y hy) hag hsub
  · have hk' : k = l.length := by simp at hk; omega
    subst hk'
    rw [List.getElem?_append_right (by omega), hx] at hy
    simp at hy
    subst hy
    have := hR _ _ _ _ _ _ hu hag hsub
    simpa using this
end
abbrev bVs (l : List Bool) : List Value := l.map Value.bool
theorem VBlk.bool {w : World} {b : Nat} {t : TypeId} {l : List Bool} (h : VBlk w b t (bVs l)) {i : Nat} (hi : i < l.length) : w.cell? ⟨b, i, none⟩ = some (.bool (l.getD i false)) := h.cell (by simp [hi, List.getD])
theorem VBlk.setBool {w : World} {b : Nat} {t : TypeId} {l : List Bool} (h : VBlk w b t (bVs l)) (i : Nat) (x : Bool) : VBlk (w.setCell ⟨b, i, none⟩ (.bool x)) b t (bVs (l.set i x)) := by
  have := h.set i (.bool x)
  rwa [← List.map_set] at this
/-- append onto a row of the call's own, at a step of a region that draws. -/
theorem step_append_own {P : Program} {w : World} {ops : Array Oper} {o : Oper} {a : Act} {K : Act → World → Prop} {Q : Exit → Act → World → Prop} {E : Prop} (hgd : o.guard = none) (s x : Operand) (t : TypeId)
    (ho : o.op = .call { callee := .builtin .append, args := #[s, x], argTypes := #[t, t] }) {base : Nat} {e : TypeId} {bytes : Nat} (he : Elem1 P t e bytes) (v : Value) (n : Nat) (xs : List Value) (hs : a.eval s = v) (hown : w.ownsRow base e 1 v n xs)
    (ad : Addr) (m c : Nat) (news : List Value) (hx : a.eval x = .slice (some ad) m c) (hl : news.length = m) (hc : ∀ j u, news[j]? = some u → w.cell? (ad.add j) = some u) (h1 : ∀ u ∈ news, u.oneCell' = true) (hn : n + m < 1000000000000) (hbase : base ≤ w.heap.size)
    (h : ∀ v' w', w'.ownsRow base e 1 v' (n + m) (xs ++ news) → w.grownBy w' v.ownBlock → (v'.ownBlock = v.ownBlock ∨ v'.ownBlock = some w.heap.size) → K (a.put o.dst v') w') :
    if Region.wanted o (yielded ops a.tmps) = true then Oper.wp P o a w K Q else E := by
  have hw : Region.wanted o (yielded ops a.tmps) = true := by simp [Region.wanted, hgd]
  rw [if_pos hw]
  obtain ⟨ht, h64, i, z, hi, hz, hsz, hby, hzs⟩ := he
  obtain ⟨v', w', hr, h2, h3, h4, h5⟩ := run_append_own_at (P := P) w base t o.type e i z 1 bytes ht hi hz hsz hby hzs (by omega) v n xs hown ad m c news (by omega) hc h1 (by unfold maxLen; omega) (by
    have : (n + m) * bytes ≤ 1000000000000 * 64 := Nat.mul_le_mul (by omega) h64
    omega) hbase
  unfold Oper.wp execOp
  simp only [ho, resolve, invoke, builtin, Sem.run_bind, Sem.run_pure, Result.andThen_ok, List.map_toArray, List.map_cons, List.map_nil, hs, hx, hr]
  exact h v' w' h2 h3 h5
end Go.Proofs.YtgfbmidpiamkhaaDoor

namespace Go.Proofs.YtgfbmidpiamkhaaDoor
open Go.RowKit
open D28

theorem eRow : Elem1 Tryd.prog 22 56 24 := elem1_mk (z := .slice none 0 0) Tryd.underlying22 (by kernel_rfl) (by omega) rfl
theorem eInt : Elem1 Tryd.prog 56 3 8 := elem1_mk (z := .int .i64 0) Tryd.underlying56 (by kernel_rfl) (by omega) rfl
theorem own_obj {w : World} {base : Nat} {t : TypeId} {sz : Nat} {v : Value} {n : Nat} {xs : List Value} (ho : w.ownsRow base t sz v n xs) {g : Nat} (hg : v.ownBlock = some g) : ∃ c, w.heap[g]? = some (.cells c t (0, 0)) := by
  obtain ⟨h1, ⟨rfl, h2⟩ | ⟨g', cap, cur, rfl, hbg, hh, hr⟩⟩ := ho
  · cases hg
  · cases hg; exact ⟨_, hh⟩
theorem own_set1 {w : World} {base g cap n : Nat} {t : TypeId} {xs : List Value} (h : w.ownsRow base t 1 (.slice (some ⟨g, 0, none⟩) n cap) n xs) (j : Nat) (u : Value) : (w.setCell ⟨g, j, none⟩ u).ownsRow base t 1 (.slice (some ⟨g, 0, none⟩) n cap) n (xs.set j u) := by
  have hxl : xs.length = n := by simpa using h.1
  obtain ⟨_, ⟨h, _⟩ | ⟨g', cap', cur, h, hbg, hh, hnc, hcm, hsz, htk⟩⟩ := h
  · cases h
  cases h
  refine ⟨by simp; omega, .inr ⟨g, cap, _, rfl, hbg, heap_setCell_same w g j cur t u hh, hnc, hcm, by simpa using hsz, ?_⟩⟩
  rw [← htk, Array.toList_setIfInBounds, List.take_set]
abbrev nV (n : Int) : Value := .int .i64 n
structure RR (w : World) (B : Nat) (v : Value) (vs : List Value) (ls : List (List Int)) : Prop where
  own : w.ownsRow B 56 1 v ls.length vs
  row : ∀ (k : Nat) (u : Value) (l : List Int), vs[k]? = some u → ls[k]? = some l → w.ownsRow B 3 1 u l.length (l.map nV)
  far : ∀ (j k : Nat) (u x : Value), j ≠ k → vs[j]? = some u → vs[k]? = some x → u.ownBlock = none ∨ u.ownBlock ≠ x.ownBlock
/-- the types of the rows -/
def rowT (t : TypeId) : Prop := t = 56 ∨ t = 3
theorem RR.len {w : World} {B : Nat} {v : Value} {vs : List Value} {ls : List (List Int)} (h : RR w B v vs ls) : vs.length = ls.length := by simpa using h.own.1
theorem RR.nil_ (w : World) (B : Nat) : RR w B (.slice none 0 0) [] [] := ⟨World.ownsRow_nil _ _ _ _, by simp, by simp⟩
theorem RR.shape {w : World} {B : Nat} {v : Value} {vs : List Value} {ls : List (List Int)} (h : RR w B v vs ls) : ∃ A c, v = .slice A ls.length c := own_shape h.own
theorem RR.keep {w w' : World} {B : Nat} {v : Value} {vs : List Value} {ls : List (List Int)} (h : RR w B v vs ls) (hb : ∀ g c t f, B ≤ g → w.heap[g]? = some (.cells c t f) → rowT t → w'.heap[g]? = w.heap[g]?) : RR w' B v vs ls :=
  ⟨own_ag h.own fun g hg => by obtain ⟨c, hc⟩ := own_obj h.own hg; exact hb g c _ _ (h.own.lt g hg).1 hc (.inl rfl),
   fun k u l hu hl => own_ag (h.row k u l hu hl) fun g hg => by obtain ⟨c, hc⟩ := own_obj (h.row k u l hu hl) hg; exact hb g c _ _ ((h.row k u l hu hl).lt g hg).1 hc (.inr rfl), h.far⟩
theorem RR.up {w w' : World} {B : Nat} {v : Value} {vs : List Value} {ls : List (List Int)} (h : RR w B v vs ls) (hb : Below w.heap.size w w') : RR w' B v vs ls :=
  h.keep fun g _ _ _ _ hc _ => hb.block g (Array.getElem?_eq_some_iff.1 hc).1
theorem RR.kp {p : Nat → Obj → Prop} {w w' : World} {B : Nat} {v : Value} {vs : List Value} {ls : List (List Int)} (h : RR w B v vs ls) (hk : Kp p w w') (hp : ∀ g c t f, B ≤ g → rowT t → p g (.cells c t f)) : RR w' B v vs ls :=
  h.keep fun g c t f hg hc ht => (hk.same g _ hc (hp g c t f hg ht)).trans hc.symm
/-- a cell of another type is written -/
theorem RR.setCell {w : World} {B : Nat} {v : Value} {vs : List Value} {ls : List (List Int)} (h : RR w B v vs ls) {G k : Nat} {c : Array Value} {t : TypeId} {f : Nat × Nat} (hG : w.heap[G]? = some (.cells c t f)) (ht : ¬ rowT t) (u : Value) : RR (w.setCell ⟨G, k, none⟩ u) B v vs ls :=
  h.keep fun g c' t' f' _ hc ht' => Below.heap_setCell w ⟨G, k, none⟩ u g fun e => by
    have e' : g = G := e
    subst e'; rw [hG] at hc; cases hc; exact ht ht'
theorem RR.pushNil {w w1 w5 : World} {B : Nat} {v v' : Value} {vs : List Value} {ls : List (List Int)} (h : RR w B v vs ls) (hb : Below w.heap.size w w1) (hown : w5.ownsRow B 56 1 v' (ls.length + 1) (vs ++ [.slice none 0 0])) (hg : w1.grownBy w5 v.ownBlock) : RR w5 B v' (vs ++ [.slice none 0 0]) (ls ++ [[]]) := by
  have hl := h.len
  refine ⟨by simpa using hown, fun k u l hu hm => ?_, fun j k u x hjk hu hx => ?_⟩
  · rcases Nat.lt_or_ge k vs.length with hk | hk
    · rw [List.getElem?_append_left hk] at hu
      rw [List.getElem?_append_left (by omega)] at hm
      refine own_ag (h.row k u l hu hm) fun g hg' => ?_
      have h1 := (h.row k u l hu hm).lt g hg'
      refine (hg.block g (Nat.lt_of_lt_of_le h1.2 hb.size) fun e => ?_).trans (hb.block g h1.2)
      obtain ⟨c, hc⟩ := own_obj (h.row k u l hu hm) hg'
      obtain ⟨c2, hc2⟩ := own_obj h.own e.symm
      rw [hc] at hc2
      have := (Obj.cells.inj (Option.some.inj hc2)).2.1
      exact absurd this (by decide)
    · rw [List.getElem?_append_right hk] at hu
      rw [List.getElem?_append_right (by omega)] at hm
      have hk2 : k = vs.length := by
        have := (List.getElem?_eq_some_iff.1 hu).1
        simp at this; omega
      subst hk2
      rw [← hl] at hm
      simp at hu hm
      subst hu hm
      exact World.ownsRow_nil _ _ _ _
  · rcases Nat.lt_or_ge j vs.length with hj | hj
    · rw [List.getElem?_append_left hj] at hu
      rcases Nat.lt_or_ge k vs.length with hk | hk
      · rw [List.getElem?_append_left hk] at hx
        exact h.far j k u x hjk hu hx
      · rw [List.getElem?_append_right hk] at hx
        have := (List.getElem?_eq_some_iff.1 hx).1
        simp at this
        have e : k - vs.length = 0 := by omega
        rw [e] at hx; simp at hx; subst hx
        cases ho : u.ownBlock with
        | none => exact .inl rfl
        | some g => exact .inr (by simp [Value.ownBlock])
    · rw [List.getElem?_append_right hj] at hu
      have := (List.getElem?_eq_some_iff.1 hu).1
      simp at this
      have e : j - vs.length = 0 := by omega
      rw [e] at hu; simp at hu; subst hu
      exact .inl rfl
theorem RR.pushLast {w w1 w5 : World} {B gw cw k : Nat} {u u' : Value} {vs : List Value} {ls : List (List Int)} {l : List Int} {x : Int} (h : RR w B (.slice (some ⟨gw, 0, none⟩) ls.length cw) vs ls) (hb : Below w.heap.size w w1)
    (hu : vs[k]? = some u) (hl : ls[k]? = some l) (hown : w5.ownsRow B 3 1 u' (l.length + 1) (l.map nV ++ [nV x])) (hg : w1.grownBy w5 u.ownBlock) (hat : u'.ownBlock = u.ownBlock ∨ u'.ownBlock = some w1.heap.size) :
    RR (w5.setCell ⟨gw, k, none⟩ u') B (.slice (some ⟨gw, 0, none⟩) ls.length cw) (vs.set k u') (ls.set k (l ++ [x])) := by
  have hlen := h.len
  have hkl : k < vs.length := (List.getElem?_eq_some_iff.1 hu).1
  have hgw := h.own.lt gw rfl
  obtain ⟨cw', hcw⟩ := own_obj h.own (g := gw) rfl
  have hugw : some gw ≠ u.ownBlock := fun e => by
    obtain ⟨c, hc⟩ := own_obj (h.row k u l hu hl) e.symm
    rw [hcw] at hc
    exact absurd (Obj.cells.inj (Option.some.inj hc)).2.1 (by decide)
  have hsz := hb.size
  have hgw5 : w5.heap[gw]? = w.heap[gw]? := (hg.block gw (by omega) hugw).trans (hb.block gw hgw.2)
  have hu'gw : ∀ g, u'.ownBlock = some g → g ≠ gw := fun g hg' e => by
    subst e
    rcases hat with h1 | h1
    · exact hugw (hg'.symm.trans h1)
    · rw [h1] at hg'; cases hg'; omega
  refine ⟨?_, fun j x' m hx hm => ?_, fun i j x1 x2 hij h1 h2 => ?_⟩
  · have h5 : w5.ownsRow B 56 1 (.slice (some ⟨gw, 0, none⟩) ls.length cw) ls.length vs := own_ag h.own fun g hg' => by cases hg'; exact hgw5
    simpa using own_set1 h5 k u'
  · rw [List.getElem?_set] at hx hm
    by_cases hkj : k = j
    · subst hkj
      rw [if_pos rfl, if_pos hkl] at hx
      rw [if_pos rfl, if_pos (by omega)] at hm
      cases hx; cases hm
      refine own_ag (by simpa using hown) fun g hg' => Below.heap_setCell w5 ⟨gw, k, none⟩ _ g (hu'gw g hg')
    · rw [if_neg hkj] at hx hm
      refine own_ag (h.row j x' m hx hm) fun g hg' => ?_
      have hlt := (h.row j x' m hx hm).lt g hg'
      have hne : g ≠ gw := fun e => by
        subst e
        obtain ⟨c, hc⟩ := own_obj (h.row j x' m hx hm) hg'
        rw [hcw] at hc
        exact absurd (Obj.cells.inj (Option.some.inj hc)).2.1 (by decide)
      have hne2 : some g ≠ u.ownBlock := fun e => by
        rcases h.far j k x' u (fun e => hkj e.symm) hx hu with h0 | h0
        · rw [h0] at hg'; cases hg'
        · exact h0 (hg'.trans e)
      exact (Below.heap_setCell w5 ⟨gw, k, none⟩ _ g hne).trans ((hg.block g (by omega) hne2).trans (hb.block g hlt.2))
  · rw [List.getElem?_set] at h1 h2
    have hlt : ∀ (j : Nat) (x' : Value), vs[j]? = some x' → ∀ g, x'.ownBlock = some g → g < w1.heap.size := fun j x' hx g hg' => by
      have hjl : j < ls.length := by have := (List.getElem?_eq_some_iff.1 hx).1; omega
      have := ((h.row j x' _ hx (List.getElem?_eq_getElem hjl)).lt g hg').2
      omega
    by_cases hki : k = i
    · subst hki
      rw [if_pos rfl, if_pos hkl] at h1
      cases h1
      rw [if_neg hij] at h2
      rcases hat with h0 | h0
      · rw [h0]; exact h.far k j u x2 hij hu h2
      · rw [h0]
        exact .inr fun e => by have := hlt j x2 h2 _ e.symm; omega
    · rw [if_neg hki] at h1
      by_cases hkj : k = j
      · subst hkj
        rw [if_pos rfl, if_pos hkl] at h2
        cases h2
        rcases hat with h0 | h0
        · rw [h0]; exact h.far i k x1 u hij h1 hu
        · rw [h0]
          cases ho : x1.ownBlock with
          | none => exact .inl rfl
          | some g => exact .inr fun e => by cases e; have := hlt i x1 h1 _ ho; omega
      · rw [if_neg hkj] at h2
        exact h.far i j x1 x2 hij h1 h2
/-- the clauses may be read -/
theorem RR.reads {w : World} {B : Nat} {v : Value} {vs : List Value} {ls : List (List Int)} (h : RR w B v vs ls) : RIntss w (fun b => B ≤ b ∧ b < w.heap.size) v ls := by
  refine reads_of_own h.own rfl (fun g hg => h.own.lt g hg) fun k hk u hu => ?_
  have hl : ls[k]? = some ls[k] := List.getElem?_eq_getElem hk
  have hr := h.row k u ls[k] hu hl
  refine reads_of_own hr (by simp) (fun g hg => hr.lt g hg) fun j hj x hx => ?_
  simp [hj] at hx
  exact hx.symm
/-- .. in blocks other than one that holds no cells -/
theorem RR.reads_but {w : World} {B D : Nat} {v : Value} {vs : List Value} {ls : List (List Int)} (h : RR w B v vs ls) (hD : ∀ c t f, w.heap[D]? ≠ some (.cells c t f)) : RIntss w (fun b => B ≤ b ∧ b < w.heap.size ∧ b ≠ D) v ls := by
  refine reads_of_own h.own rfl (fun g hg => ⟨(h.own.lt g hg).1, (h.own.lt g hg).2, fun e => by subst e; obtain ⟨c, hc⟩ := own_obj h.own hg; exact hD _ _ _ hc⟩) fun k hk u hu => ?_
  have hl : ls[k]? = some ls[k] := List.getElem?_eq_getElem hk
  have hr := h.row k u ls[k] hu hl
  refine reads_of_own hr (by simp) (fun g hg => ⟨(hr.lt g hg).1, (hr.lt g hg).2, fun e => by subst e; obtain ⟨c, hc⟩ := own_obj hr hg; exact hD _ _ _ hc⟩) fun j hj x hx => ?_
  simp [hj] at hx
  exact hx.symm
theorem pushLast_set {out : List (List Int)} {c : List Int} {n : Int} {k : Nat} (h : out[k]? = some c) (hk : k + 1 = out.length) : pushLast out n = out.set k (c ++ [n]) := by
  obtain ⟨r, l, rfl⟩ : ∃ r l, out = r ++ [l] := ⟨out.dropLast, out.getLast (by rintro rfl; simp at hk), (List.dropLast_concat_getLast _).symm⟩
  have hkr : k = r.length := by simp at hk; omega
  subst hkr
  simp at h
  subst h
  simp [pushLast]
theorem step_push1 {P : Program} {ops : Array Oper} {o : Oper} {w : World} {a : Act} {K : Act → World → Prop} {Q : Exit → Act → World → Prop} {E : Prop} (hgd : o.guard = none) (s x : Operand) (t : TypeId)
    (ho : o.op = .call { callee := .builtin .append, args := #[s, x], argTypes := #[t, t] }) {e : TypeId} {bytes B : Nat} (he : Elem1 P t e bytes)
    {v : Value} {n : Nat} {xs : List Value} (hs : a.eval s = v) (hown : w.ownsRow B e 1 v n xs) (g : Nat) (u : Value) (hx : a.eval x = .slice (some ⟨g, 0, none⟩) 1 1)
    (hc : w.cell? ⟨g, 0, none⟩ = some u) (h1 : u.oneCell' = true) (hn : n < 999999999999) (hbase : B ≤ w.heap.size)
    (h : ∀ v' w', w'.ownsRow B e 1 v' (n + 1) (xs ++ [u]) → w.grownBy w' v.ownBlock → (v'.ownBlock = v.ownBlock ∨ v'.ownBlock = some w.heap.size) → K (a.put o.dst v') w') :
    if Region.wanted o (yielded ops a.tmps) = true then Oper.wp P o a w K Q else E := by
  refine step_append_own hgd s x t ho he v n xs hs hown ⟨g, 0, none⟩ 1 1 [u] hx rfl (fun j u' hu => ?_) (fun u' hu => ?_) (by omega) hbase h
  · match j with
    | 0 => simp at hu; subst hu; exact hc
    | j + 1 => simp at hu
  · simp at hu; subst hu; exact h1
end Go.Proofs.YtgfbmidpiamkhaaDoor
