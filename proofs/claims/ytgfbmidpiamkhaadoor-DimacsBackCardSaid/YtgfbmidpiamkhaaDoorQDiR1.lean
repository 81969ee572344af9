/- The reference's lines in memory. -/
import Derived.Test.YtgfbmidpiamkhaaDoorQElemN
import Derived.Test.YtgfbmidpiamkhaaDoorZc
namespace Go.Proofs.YtgfbmidpiamkhaaDoor
open Go.RowKit
open D28

theorem eLine : ElemN Tryd.prog 38 75 2 32 := elemN_mk Tryd.underlying38 (by kernel_rfl) (by omega) (by omega)
def lnFlat (ls : List Ln) (us : List Value) : List Value := (ls.zip us).flatMap fun x => [.int .i64 (x.1.1 : Nat), x.2]
structure LL (w : World) (B : Nat) (v : Value) (ls : List Ln) (us : List Value) (c : Value) (ws : List Bs) : Prop where
  len : us.length = ls.length
  own : w.ownsRow B 75 2 v ls.length (lnFlat ls us)
  row : ∀ (k : Nat) (u : Value) (x : Ln), us[k]? = some u → ls[k]? = some x → OwnT w B u x.2
  cur : OwnT w B c ws
  far : ∀ (k : Nat) (u : Value), us[k]? = some u → c.ownBlock = none ∨ u.ownBlock ≠ c.ownBlock
theorem OwnT.nil_ (w : World) (B : Nat) : OwnT w B (.slice none 0 0) [] := World.ownsRow_nil _ _ _ _
theorem LL.start (w : World) (B : Nat) : LL w B (.slice none 0 0) [] [] (.slice none 0 0) [] := ⟨rfl, World.ownsRow_nil _ _ _ _, by simp, OwnT.nil_ _ _, by simp⟩
theorem LL.keep {w w' : World} {B : Nat} {v c : Value} {ls : List Ln} {us : List Value} {ws : List Bs} (h : LL w B v ls us c ws) (hb : ∀ g, B ≤ g → g < w.heap.size → w'.heap[g]? = w.heap[g]?) : LL w' B v ls us c ws :=
  ⟨h.len, own_ag h.own fun g hg => hb g (h.own.lt g hg).1 (h.own.lt g hg).2, fun k u x hu hx => own_ag (h.row k u x hu hx) fun g hg => hb g (World.ownsRow.lt (h.row k u x hu hx) g hg).1 (World.ownsRow.lt (h.row k u x hu hx) g hg).2,
   own_ag h.cur fun g hg => hb g (World.ownsRow.lt h.cur g hg).1 (World.ownsRow.lt h.cur g hg).2, h.far⟩
theorem LL.up {w w' : World} {B : Nat} {v c : Value} {ls : List Ln} {us : List Value} {ws : List Bs} (h : LL w B v ls us c ws) (hb : Below w.heap.size w w') : LL w' B v ls us c ws := h.keep fun g _ hg => hb.block g hg
theorem LL.reset {w : World} {B : Nat} {v c : Value} {ls : List Ln} {us : List Value} {ws : List Bs} (h : LL w B v ls us c ws) : LL w B v ls us (.slice none 0 0) [] := ⟨h.len, h.own, h.row, OwnT.nil_ _ _, fun _ _ _ => .inl rfl⟩
theorem LL.word {w w1 w5 : World} {B : Nat} {v c c' : Value} {ls : List Ln} {us : List Value} {ws : List Bs} {x : Bs} (h : LL w B v ls us c ws) (hb : Below w.heap.size w w1) (hown : w5.ownsRow B 9 1 c' (ws.length + 1) (ws.map sv ++ [sv x]))
    (hg : w1.grownBy w5 c.ownBlock) (hat : c'.ownBlock = c.ownBlock ∨ c'.ownBlock = some w1.heap.size) : LL w5 B v ls us c' (ws ++ [x]) := by
  have hsz := hb.size
  refine ⟨h.len, own_ag h.own fun g hg' => ?_, fun k u y hu hy => own_ag (h.row k u y hu hy) fun g hg' => ?_, by unfold OwnT; simpa using hown, fun k u hu => ?_⟩
  · have hlt := h.own.lt g hg'
    refine (hg.block g (by omega) fun e => ?_).trans (hb.block g hlt.2)
    obtain ⟨q, hq⟩ := own_obj h.own hg'
    obtain ⟨q2, hq2⟩ := own_obj h.cur e.symm
    rw [hq] at hq2
    exact absurd (Obj.cells.inj (Option.some.inj hq2)).2.1 (by decide)
  · have hlt := World.ownsRow.lt (h.row k u y hu hy) g hg'
    refine (hg.block g (by omega) fun e => ?_).trans (hb.block g hlt.2)
    rcases h.far k u hu with h0 | h0
    · rw [h0] at e; cases e
    · exact h0 (hg'.trans e)
  · rcases hat with h0 | h0
    · rw [h0]; exact h.far k u hu
    · rw [h0]
      refine .inr fun e => ?_
      have hk : k < ls.length := by rw [← h.len]; exact (List.getElem?_eq_some_iff.1 hu).1
      have := (World.ownsRow.lt (h.row k u _ hu (List.getElem?_eq_getElem hk)) _ e).2
      omega
theorem LL.emit {w w1 w5 : World} {B n : Nat} {v v' c : Value} {ls : List Ln} {us : List Value} {ws : List Bs} (h : LL w B v ls us c ws) (hb : Below w.heap.size w w1) (hown : w5.ownsRow B 75 2 v' (ls.length + 1) (lnFlat ls us ++ [.int .i64 n, c]))
    (hg : w1.grownBy w5 v.ownBlock) : LL w5 B v' (ls ++ [(n, ws)]) (us ++ [c]) (.slice none 0 0) [] := by
  have hsz := hb.size
  have key : ∀ (u : Value) (W : List Bs), OwnT w B u W → OwnT w5 B u W := fun u W hu => own_ag hu fun g hg' => by
    have hlt := World.ownsRow.lt hu g hg'
    refine (hg.block g (by omega) fun e => ?_).trans (hb.block g hlt.2)
    obtain ⟨q, hq⟩ := own_obj hu hg'
    obtain ⟨q2, hq2⟩ := own_obj h.own e.symm
    rw [hq] at hq2
    exact absurd (Obj.cells.inj (Option.some.inj hq2)).2.1 (by decide)
  refine ⟨by simp [h.len], ?_, fun k u x hu hx => ?_, OwnT.nil_ _ _, fun _ _ _ => .inl rfl⟩
  · have e : lnFlat (ls ++ [(n, ws)]) (us ++ [c]) = lnFlat ls us ++ [.int .i64 n, c] := by
      unfold lnFlat
      rw [List.zip_append h.len.symm, List.flatMap_append]; simp
    rw [e]; simpa using hown
  · rcases Nat.lt_or_ge k us.length with hk | hk
    · rw [List.getElem?_append_left hk] at hu
      rw [List.getElem?_append_left (by rw [← h.len]; exact hk)] at hx
      exact key _ _ (h.row k u x hu hx)
    · rw [List.getElem?_append_right hk] at hu
      rw [List.getElem?_append_right (by rw [← h.len]; exact hk)] at hx
      have := (List.getElem?_eq_some_iff.1 hu).1
      simp at this
      have e0 : k - us.length = 0 := by omega
      rw [e0] at hu
      rw [← h.len, e0] at hx
      simp at hu hx
      subst hu hx
      exact key _ _ h.cur
/-! ### read -/
def RT : Rd Bs := fun _ _ v s => v = sv s
theorem RT.stable : Stable RT := fun _ _ _ _ _ _ h _ _ => h
abbrev RWords := RSl RT
def VLn : RdV Ln := fun w S b o x => w.cell? ⟨b, o, none⟩ = some (.int .i64 (x.1 : Nat)) ∧ ∃ u, w.cell? ⟨b, o + 1, none⟩ = some u ∧ RWords w S u x.2
theorem VLn.stable : StableV VLn := fun _ _ _ _ b o _ h hb ha hS => ⟨(ha.cell (p := ⟨b, o, none⟩) hb).trans h.1, by
  obtain ⟨u, h1, h2⟩ := h.2
  exact ⟨u, (ha.cell (p := ⟨b, o + 1, none⟩) hb).trans h1, RSl.stable RT.stable _ _ _ _ _ _ h2 ha hS⟩⟩
abbrev RLines := RArr 2 VLn
theorem RLines.stable : Stable RLines := RArr.stable VLn.stable
theorem OwnT.reads {w : World} {B : Nat} {v : Value} {W : List Bs} (h : OwnT w B v W) : RWords w (fun b => B ≤ b ∧ b < w.heap.size) v W :=
  reads_of_own h rfl (fun g hg => World.ownsRow.lt h g hg) fun k hk u hu => by simp [hk] at hu; exact hu.symm
theorem lnFlat_get {ls : List Ln} {us : List Value} (hl : us.length = ls.length) {k : Nat} (hk : k < ls.length) : (lnFlat ls us)[k * 2]? = some (.int .i64 (ls[k].1 : Nat)) ∧ (lnFlat ls us)[k * 2 + 1]? = us[k]? := by
  have hz : k < (ls.zip us).length := by simp; omega
  have h0 := flatMap_cells (n := 2) (cells := fun x : Ln × Value => [.int .i64 (x.1.1 : Nat), x.2]) (fun _ => rfl) (ls.zip us) k 0 hz (by omega)
  have h1 := flatMap_cells (n := 2) (cells := fun x : Ln × Value => [.int .i64 (x.1.1 : Nat), x.2]) (fun _ => rfl) (ls.zip us) k 1 hz (by omega)
  refine ⟨?_, ?_⟩
  · show (lnFlat ls us)[k * 2 + 0]? = _
    unfold lnFlat; rw [h0]; simp
  · unfold lnFlat; rw [h1, List.getElem?_eq_getElem (by omega : k < us.length)]; simp
theorem LL.reads {w : World} {B : Nat} {v c : Value} {ls : List Ln} {us : List Value} {ws : List Bs} (h : LL w B v ls us c ws) : RLines w (fun b => B ≤ b ∧ b < w.heap.size) v ls := by
  have hown := h.own
  rcases hown.2 with ⟨rfl, h0⟩ | ⟨g, cap, cur, rfl, hg, hh, hnc, hm, hs, ht⟩
  · have : ls = [] := List.eq_nil_of_length_eq_zero h0
    subst this
    exact ⟨none, 0, rfl, Nat.le_refl _, Nat.zero_le _, fun h => absurd h (by simp)⟩
  · refine ⟨some ⟨g, 0, none⟩, cap, rfl, hnc, hm, fun _ => ⟨g, 0, rfl, hown.lt g rfl, fun k hk => ?_⟩⟩
    obtain ⟨e0, e1⟩ := lnFlat_get h.len hk
    have hc : ∀ j u, (lnFlat ls us)[j]? = some u → w.cell? ⟨g, j, none⟩ = some u := fun j u hu => by
      rw [← ht, List.getElem?_take] at hu
      split at hu
      · rw [cell_of_row _ _ _ _ _ _ hh]; simpa using hu
      · cases hu
    have hku : k < us.length := by rw [h.len]; exact hk
    rw [List.getElem?_eq_getElem hku] at e1
    refine ⟨by rw [Nat.zero_add]; exact hc _ _ e0, us[k], by rw [Nat.zero_add]; exact hc _ _ e1, ?_⟩
    exact OwnT.reads (h.row k us[k] ls[k] (List.getElem?_eq_getElem hku) (List.getElem?_eq_getElem hk))
end Go.Proofs.YtgfbmidpiamkhaaDoor
