/- Blocks that are known whole; a queue: a slice that is taken from at its front and put to at its end. No function of the program is in sight. -/
import Derived.Test.YtgfbmidpiamkhaaDoorPlain
import Derived.ArgAppend
namespace Go.Proofs.YtgfbmidpiamkhaaDoor
open Go.RowKit

/-- Block b holds just the cells vs. -/
def VBlk (w : World) (b : Nat) (t : TypeId) (vs : List Value) : Prop := w.heap[b]? = some (.cells vs.toArray t (0, 0))
section
variable {w w' : World} {b : Nat} {t : TypeId} {vs : List Value}
theorem VBlk.lt (h : VBlk w b t vs) : b < w.heap.size := (Array.getElem?_eq_some_iff.1 h).1
theorem VBlk.cell (h : VBlk w b t vs) {i : Nat} {u : Value} (hi : vs[i]? = some u) : w.cell? ⟨b, i, none⟩ = some u := by
  rw [cell_of_row _ _ i _ _ _ h]; simpa using hi
theorem VBlk.frozen (h : VBlk w b t vs) (i : Nat) : w.frozen? ⟨b, i, none⟩ = false := by
  unfold VBlk at h; simp [World.frozen?, h]
theorem VBlk.set (h : VBlk w b t vs) (i : Nat) (u : Value) : VBlk (w.setCell ⟨b, i, none⟩ u) b t (vs.set i u) := by
  unfold VBlk at h ⊢
  simp [World.setCell, Array.getElem?_modify, h]
theorem VBlk.below {B : Nat} (h : VBlk w b t vs) (hb : Below B w w') (hg : b < B) : VBlk w' b t vs := (hb.block b hg).trans h
theorem VBlk.up (h : VBlk w b t vs) (hb : Below w.heap.size w w') : VBlk w' b t vs := (hb.block b h.lt).trans h
theorem VBlk.alloc (h : VBlk w b t vs) (o : Obj) : VBlk (w.alloc o) b t vs := (Below.heap_alloc w o b h.lt).trans h
theorem VBlk.far (h : VBlk w b t vs) {p : Addr} (hp : b ≠ p.block) (u : Value) : VBlk (w.setCell p u) b t vs := (Below.heap_setCell w p u b hp).trans h
theorem VBlk.drewN (h : VBlk w b t vs) (n : Nat) : VBlk (w.drewN n) b t vs := h
theorem VBlk.grown {row : Option Nat} (h : VBlk w b t vs) (hb : w.grownBy w' row) (hg : some b ≠ row) : VBlk w' b t vs := (hb.block b h.lt hg).trans h
theorem VBlk.ag {S : Nat → Prop} (h : VBlk w b t vs) (hb : Ag S w w') (hg : S b) : VBlk w' b t vs := (hb b hg).trans h
theorem vblk_new (w : World) (t : TypeId) (cs : Array Value) : VBlk (w.alloc (.cells cs t)) w.heap.size t cs.toList := heap_alloc_new w _
theorem vblk_made (w : World) (t : TypeId) (z : Value) (n : Nat) : VBlk (w.alloc (.cells (madeCells #[z] n) t)) w.heap.size t (List.replicate n z) := by
  have := vblk_new w t (madeCells #[z] n)
  rwa [toList_madeCells_one] at this
/-- Numbers in a block. -/
abbrev iVs (l : List Int) : List Value := l.map (Value.int .i64)
theorem VBlk.int {l : List Int} (h : VBlk w b t (iVs l)) {i : Nat} (hi : i < l.length) : w.cell? ⟨b, i, none⟩ = some (.int .i64 l[i]) := h.cell (by simp [hi])
theorem VBlk.setInt {l : List Int} (h : VBlk w b t (iVs l)) (i : Nat) (x : Int) : VBlk (w.setCell ⟨b, i, none⟩ (.int .i64 x)) b t (iVs (l.set i x)) := by
  have := h.set i (.int .i64 x)
  rwa [← List.map_set] at this
theorem VBlk.reads {l : List Int} {S : Nat → Prop} (h : VBlk w b t (iVs l)) (hS : S b) (hn : l.length ≤ 1000000) : RInts w S (.slice (some ⟨b, 0, none⟩) l.length l.length) l := ints_block h hS rfl hn
end

/-- The slice v is the row xs: either it has no room behind it, or it is a row of the call's own. -/
def Que (w : World) (base : Nat) (e : TypeId) (v : Value) (xs : List Value) : Prop :=
  base ≤ w.heap.size ∧ ((∃ A, v = .slice A xs.length xs.length ∧ (0 < xs.length → ∃ b off, A = some ⟨b, off, none⟩ ∧ base ≤ b ∧ b < w.heap.size ∧ ∀ j u, xs[j]? = some u → w.cell? ⟨b, off + j, none⟩ = some u)) ∨ w.ownsRow base e 1 v xs.length xs)
section
variable {w w' : World} {base : Nat} {e : TypeId} {v : Value} {xs : List Value}
theorem Que.shape (h : Que w base e v xs) : ∃ A c, v = .slice A xs.length c := by
  rcases h.2 with ⟨A, hv, _⟩ | h
  · exact ⟨A, _, hv⟩
  · exact own_shape h
/-- Where the queue lies. -/
theorem Que.at_ (h : Que w base e v xs) (hp : 0 < xs.length) : ∃ b off c, v = .slice (some ⟨b, off, none⟩) xs.length c ∧ xs.length ≤ c ∧ base ≤ b ∧ b < w.heap.size ∧ ∀ j u, xs[j]? = some u → w.cell? ⟨b, off + j, none⟩ = some u := by
  rcases h.2 with ⟨A, rfl, h1⟩ | h
  · obtain ⟨b, off, rfl, h2, h3, h4⟩ := h1 hp
    exact ⟨b, off, _, rfl, Nat.le_refl _, h2, h3, h4⟩
  · rcases h.2 with ⟨_, h0⟩ | ⟨g, cap, cur, rfl, hg, hh, hnc, _⟩
    · omega
    · refine ⟨g, 0, cap, rfl, hnc, hg, (Array.getElem?_eq_some_iff.1 hh).1, fun j u hu => ?_⟩
      have := h.cells (g := g) rfl j u hu
      rwa [add_none] at this
theorem Que.keep (h : Que w base e v xs) (hs : w.heap.size ≤ w'.heap.size) (hb : ∀ i, base ≤ i → i < w.heap.size → w'.heap[i]? = w.heap[i]?) : Que w' base e v xs := by
  refine ⟨Nat.le_trans h.1 hs, ?_⟩
  rcases h.2 with ⟨A, hv, h1⟩ | h
  · refine .inl ⟨A, hv, fun hp => ?_⟩
    obtain ⟨b, off, e', h2, h3, h4⟩ := h1 hp
    exact ⟨b, off, e', h2, Nat.lt_of_lt_of_le h3 hs, fun j u hu => (World.cell?_of_block (a := ⟨b, off + j, none⟩) (hb b h2 h3)).trans (h4 j u hu)⟩
  · refine .inr ⟨h.1, ?_⟩
    rcases h.2 with h0 | ⟨g, cap, cur, h1, h2, h3, h4⟩
    · exact .inl h0
    · exact .inr ⟨g, cap, cur, h1, h2, (hb g h2 (Array.getElem?_eq_some_iff.1 h3).1).trans h3, h4⟩
theorem Que.alloc (h : Que w base e v xs) (o : Obj) : Que (w.alloc o) base e v xs := h.keep (by simp) fun i _ hi => Below.heap_alloc w o i hi
theorem Que.setCell (h : Que w base e v xs) {p : Addr} (hp : p.block < base) (u : Value) : Que (w.setCell p u) base e v xs :=
  h.keep (by simp [World.setCell]) fun i hi _ => Below.heap_setCell w p u i (fun e => by rw [e] at hi; omega)
theorem que_new (w : World) (e : TypeId) (u : Value) {base : Nat} (hb : base ≤ w.heap.size) : Que (w.alloc (.cells #[u] e)) base e (.slice (some ⟨w.heap.size, 0, none⟩) 1 1) [u] := by
  refine ⟨by simp; omega, .inl ⟨_, rfl, fun _ => ⟨w.heap.size, 0, rfl, hb, by simp, fun j x hx => ?_⟩⟩⟩
  rw [Nat.zero_add]
  exact (vblk_new w e #[u]).cell hx
/-- The front is taken off. -/
theorem Que.tail {x : Value} {b off c : Nat} (h : Que w base e (.slice (some ⟨b, off, none⟩) (x :: xs).length c) (x :: xs)) (hc : ∀ j u, (x :: xs)[j]? = some u → w.cell? ⟨b, off + j, none⟩ = some u) (h2 : base ≤ b) (h3 : b < w.heap.size) (A : Option Addr) (hA : 0 < xs.length → A = some ⟨b, off + 1, none⟩) :
    Que w base e (.slice A xs.length xs.length) xs :=
  ⟨h.1, .inl ⟨A, rfl, fun hp => ⟨b, off + 1, hA hp, h2, h3, fun j u hu => by rw [show off + 1 + j = off + (j + 1) by omega]; exact hc (j + 1) u (by simpa using hu)⟩⟩⟩
theorem own_mono {w : World} {base base' : Nat} {e : TypeId} {size : Nat} {v : Value} {n : Nat} {xs : List Value} (h : w.ownsRow base e size v n xs) (hb : base' ≤ base) : w.ownsRow base' e size v n xs :=
  ⟨h.1, h.2.elim .inl fun ⟨g, cap, cur, h1, h2, h3⟩ => .inr ⟨g, cap, cur, h1, Nat.le_trans hb h2, h3⟩⟩
/-- append of one value, which lies alone in a block that was just made, to a queue. -/
theorem wpList_que {P : Program} {ops : Array Oper} {rest : List Oper} {o : Oper} {a : Act} {Q : Exit → Act → World → Prop} (hgd : o.guard = none) (s x : Operand) (t : TypeId)
    (ho : o.op = .call { callee := .builtin .append, args := #[s, x], argTypes := #[t, t] }) {bytes : Nat} (he : Elem1 P t e bytes)
    (hs : a.eval s = v) (h : Que w base e v xs) (g : Nat) (u : Value) (hx : a.eval x = .slice (some ⟨g, 0, none⟩) 1 1)
    (hc : w.cell? ⟨g, 0, none⟩ = some u) (h1 : u.oneCell' = true) (hn : xs.length < 1000000000000)
    (hK : ∀ v' w', Que w' base e v' (xs ++ [u]) → Below base w w' → wpList P ops Q rest (a.put o.dst v') w') :
    wpList P ops Q (o :: rest) a w := by
  have hlen : (xs ++ [u]).length = xs.length + 1 := by simp
  rcases h.2 with ⟨A, rfl, h2⟩ | hown
  · obtain ⟨ht, h64, i, z, hi, hz, hsz, hby, hzs⟩ := he
    by_cases hp : 0 < xs.length
    · obtain ⟨b, off, rfl, h3, h4, h5⟩ := h2 hp
      refine wpList_append_grows w hgd s x t ho e i z 1 bytes ht hi hz hsz hby hzs (by omega) (some ⟨b, off, none⟩) xs.length xs.length xs hs (fun e => by cases e) (by omega) (fun b' hb' j u' hu' => ?_) ⟨g, 0, none⟩ 1 1 [u] hx rfl ?_ ?_ (by omega) (by unfold maxLen; omega) ?_ fun v' w' ho' hg' => ?_
      · cases hb'; rw [add_none]; exact h5 j u' hu'
      · intro j u' hu
        match j with
        | 0 => simp at hu; subst hu; exact hc
        | j + 1 => simp at hu
      · intro u' hu; simp at hu; subst hu; exact h1
      · have : (xs.length + 1) * bytes ≤ 1000000000000 * 64 := Nat.mul_le_mul (by omega) h64
        omega
      · refine hK v' w' ⟨Nat.le_trans h.1 hg'.size, .inr ?_⟩ ((Below.refl _ _).grown hg' h.1 (by simp))
        rw [hlen]
        exact own_mono ho' h.1
    · have hx0 : xs = [] := List.eq_nil_of_length_eq_zero (by omega)
      subst hx0
      cases A with
      | none =>
        refine wpList_append_own_at w hgd s x t ho base e i z 1 bytes ht hi hz hsz hby hzs (by omega) (.slice none 0 0) 0 [] hs (World.ownsRow_nil w _ e 1) ⟨g, 0, none⟩ 1 1 [u] hx rfl ?_ ?_ (by unfold maxLen; omega) (by omega) h.1 fun v' w' h2 h3 _ h5 => hK v' w' ⟨Nat.le_trans h.1 h3.size, .inr (by simpa using h2)⟩ ((Below.refl _ _).grown h3 h.1 (by simp [Value.ownBlock]))
        · intro j u' hu
          match j with
          | 0 => simp at hu; subst hu; exact hc
          | j + 1 => simp at hu
        · intro u' hu; simp at hu; subst hu; exact h1
      | some b =>
        refine wpList_append_grows w hgd s x t ho e i z 1 bytes ht hi hz hsz hby hzs (by omega) (some b) 0 0 [] hs (fun e => by cases e) rfl (fun b' hb' j u' hu' => by simp at hu') ⟨g, 0, none⟩ 1 1 [u] hx rfl ?_ ?_ (by omega) (by unfold maxLen; omega) (by omega) fun v' w' ho' hg' => hK v' w' ⟨Nat.le_trans h.1 hg'.size, .inr ?_⟩ ((Below.refl _ _).grown hg' h.1 (by simp))
        · intro j u' hu
          match j with
          | 0 => simp at hu; subst hu; exact hc
          | j + 1 => simp at hu
        · intro u' hu; simp at hu; subst hu; exact h1
        · simpa using own_mono ho' h.1
  · refine wpList_push hgd s x t ho he hs hown g u hx hc h1 hn h.1 fun v' w' h2 h3 h4 => hK v' w' ⟨Nat.le_trans h.1 h3.size, .inr (by rw [hlen]; exact h2)⟩ ((Below.refl _ _).grown h3 h.1 fun k hk => (hown.lt k hk).1)
end
end Go.Proofs.YtgfbmidpiamkhaaDoor
