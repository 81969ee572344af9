/- The maker of a question: one clause more. -/
import Derived.Test.YtlaihjhkghbfkaaCnfW9
namespace Go.Proofs.Ytlaihjhkghbfkaa
open Go.RowKit

theorem eRow : Elem1 Try.prog 32 39 24 := elem1_mk (z := .slice none 0 0) Try.underlying32 (by kernel_rfl) (by omega) rfl
abbrev inS (w : World) (g : Nat) (own : Option Nat) : Nat → Prop := fun b => b < w.heap.size ∧ g < b ∧ some b ≠ own
/-- The maker's block g: cs are the clauses that it was asked for, of which it keeps the first 16384; own: the block of its row of clauses. -/
def MakerAt (w : World) (g n0 : Nat) (own : Option Nat) (cs : List (List Int)) : Prop :=
  ∃ v xs, w.heap[g]? = some (.cells #[.int .i64 (n0 : Int), v, .bool (decide (16384 < cs.length))] 56 (0, 0)) ∧ w.ownsRow (g + 1) 39 1 v (min cs.length 16384) xs ∧ v.ownBlock = own ∧
    ∀ i (h : i < cs.length) u, xs[i]? = some u → RInts w (inS w g own) u cs[i]
theorem MakerAt.lt {w : World} {g n0 : Nat} {own : Option Nat} {cs : List (List Int)} (h : MakerAt w g n0 own cs) : g < w.heap.size ∧ ∀ b, own = some b → g < b ∧ b < w.heap.size := by
  obtain ⟨v, xs, h1, h2, rfl, _⟩ := h
  exact ⟨(Array.getElem?_eq_some_iff.1 h1).1, fun b hb => by have := h2.lt b hb; omega⟩
theorem MakerAt.keep {w w' : World} {g n0 : Nat} {own : Option Nat} {cs : List (List Int)} (h : MakerAt w g n0 own cs) (hb : Below w.heap.size w w') : MakerAt w' g n0 own cs := by
  have hlt := h.lt
  obtain ⟨v, xs, h1, h2, h3, h4⟩ := h
  have hg : w.grownBy w' none := ⟨hb.os, hb.tape, hb.output, hb.size, fun k hk _ => hb.block k hk⟩
  refine ⟨v, xs, (hb.block g hlt.1).trans h1, h2.kept hg (by cases hv : v.ownBlock with | none => exact .inl rfl | some b => exact .inr (by simp)), h3, fun i hi u hu => ?_⟩
  exact RInts.stable _ _ _ _ _ _ (h4 i hi u hu) (fun b hb' => hb.block b hb'.1) fun b hb' => ⟨Nat.lt_of_lt_of_le hb'.1 hb.size, hb'.2⟩
theorem grown_none_of_below {w w' : World} (hb : Below w.heap.size w w') (row : Option Nat) : w.grownBy w' row := ⟨hb.os, hb.tape, hb.output, hb.size, fun k hk _ => hb.block k hk⟩

def ClausePost (g n0 : Nat) (own : Option Nat) (cs : List (List Int)) (c : List Int) (w : World) (e : Ending) (w' : World) : Prop :=
  e = .returned (.tuple #[]) ∧ ∃ own', MakerAt w' g n0 own' (cs ++ [c]) ∧ (own' = own ∨ ∃ b, own' = some b ∧ w.heap.size ≤ b) ∧ Ag (inS w g own) w w' ∧ Below g w w'

set_option maxRecDepth 100000 in
set_option maxHeartbeats 1000000 in
theorem clause_any (g n0 : Nat) (own : Option Nat) (cs : List (List Int)) (c : List Int) (l : Value) (w : World) (hm : MakerAt w g n0 own cs) (hl : RInts w (inS w g own) l c) :
    Calls Try.prog 22 #[.pointer (some ⟨g, 0, none⟩), l] w (ClausePost g n0 own cs c w) := by
  have hlt := hm.lt
  have Hm := Lib.hid hm
  have Hl := Lib.hid hl
  obtain ⟨v, xs, h1, h2, h3, h4⟩ := hm
  have hgw := hlt.1
  have hc0 : w.cell? ⟨g, 0, none⟩ = some (.int .i64 (n0 : Int)) := by rw [cell_of_row _ _ 0 _ _ _ h1]; rfl
  have hc1 : w.cell? ⟨g, 1, none⟩ = some v := by rw [cell_of_row _ _ 1 _ _ _ h1]; rfl
  have hc2 : w.cell? ⟨g, 2, none⟩ = some (.bool (decide (16384 < cs.length))) := by rw [cell_of_row _ _ 2 _ _ _ h1]; rfl
  have hf2 : w.frozen? ⟨g, 2, none⟩ = false := frozen_of_row w g 2 _ _ h1
  obtain ⟨A, k, rfl⟩ := own_shape h2
  have H1 := Lib.hid h1; have H2 := Lib.hid h2; have H3 := Lib.hid h3; have H4 := Lib.hid h4; have Hlt := Lib.hid hlt
  obtain ⟨A9, k9, rfl, _, _⟩ := hl
  clear h1 h2 h3 h4 hlt
  by_cases hbig : 16384 ≤ cs.length
  · have hmin : min cs.length 16384 = 16384 := by omega
    rw [hmin] at hc1
    have Hmin := Lib.hid hmin; clear hmin
    go_enter Try.func22, Try.ntmps22
    go_wp2
    refine bodyPost_ret (results_none rfl _ _ _) rfl ?_
    refine ⟨rfl, own, ?_, .inl rfl, (ag_setCell w ⟨g, 2, none⟩ (.bool true)).sub fun b hb => Nat.ne_of_gt hb.2.1, (Below.refl g w).setCell (p := ⟨g, 2, none⟩) (Nat.le_refl g) _⟩
    have hgr : w.grownBy (w.setCell ⟨g, 2, none⟩ (.bool true)) (some g) := ⟨rfl, rfl, rfl, by simp, fun k _ hk => Below.heap_setCell _ _ _ _ (fun e => hk (by simp [e]))⟩
    refine ⟨.slice A (min cs.length 16384) k, xs, ?_, ?_, H3.out, fun i hi u hu => ?_⟩
    · have := heap_setCell_same w g 2 _ _ (.bool true) H1.out
      rw [this]
      simp [show 16384 < cs.length + 1 by omega]
    · have h5 : min (cs ++ [c]).length 16384 = min cs.length 16384 := by simp; omega
      rw [h5]
      refine H2.out.kept hgr ?_
      rw [H3.out]
      cases ho : own with
      | none => exact .inl rfl
      | some b => exact .inr (by have := Hlt.out.2 b ho; simp; omega)
    · have hxl := H2.out.1
      have hil : i < cs.length := by have := (List.getElem?_eq_some_iff.1 hu).1; omega
      rw [List.getElem_append_left hil]
      exact RInts.stable _ _ _ _ _ _ (H4.out i hil u hu) ((ag_setCell w ⟨g, 2, none⟩ (.bool true)).sub fun b hb => Nat.ne_of_gt hb.2.1) fun b hb => ⟨by simpa using hb.1, hb.2⟩
  · have hmin : min cs.length 16384 = cs.length := by omega
    rw [hmin] at hc1
    have Hmin := Lib.hid hmin; clear hmin
    have H2' := Lib.hid (show w.ownsRow (g + 1) 39 1 (.slice A cs.length k) cs.length xs by have := H2.out; rwa [Hmin.out] at this)
    have H3' := Lib.hid (show (Value.slice A cs.length k).ownBlock = own by have := H3.out; rwa [Hmin.out] at this)
    go_enter Try.func22, Try.ntmps22
    go_wp2_with (
      at_builtin
      go_must (refine wpList_push rfl _ _ _ rfl eRow (v := .slice A cs.length k) rfl (H2'.out.alloc _) w.heap.size (.slice A9 c.length k9) rfl (by simp [go_sem]) rfl (by omega) (by simp; omega) ?_)
      intro v1 w3 hown1 hg1 hat1
      obtain ⟨A1, k1, rfl⟩ := own_shape hown1
      go_must (have hgb := (hg1.block g (by simp; omega) (by rw [H3'.out]; exact fun e => by have := Hlt.out.2 g e.symm; omega)).trans ((Below.heap_alloc w _ g hgw).trans H1.out))
      go_must (have hd1 : w3.cell? ⟨g, 1, none⟩ = some (.slice A (min cs.length 16384) k) := by rw [cell_of_row _ _ 1 _ _ _ hgb]; rfl)
      go_must (have hfz1 : w3.frozen? ⟨g, 1, none⟩ = false := frozen_of_row w3 g 1 _ _ hgb)
      have Hgb := Lib.hid hgb
      clear hgb)
    go_end0
    have hsz3 : w.heap.size + 1 ≤ w3.heap.size := by have := hg1.size; simpa using this
    have hag : Ag (inS w g own) w (w3.setCell ⟨g, 1, none⟩ (Value.slice A1 (cs.length + 1) k1)) := fun b hb =>
      (Below.heap_setCell _ _ _ _ (fun e => Nat.ne_of_gt hb.2.1 e)).trans ((hg1.block b (by simp; omega) (by rw [H3'.out]; exact hb.2.2)).trans (Below.heap_alloc w _ b hb.1))
    have hgr : w3.grownBy (w3.setCell ⟨g, 1, none⟩ (Value.slice A1 (cs.length + 1) k1)) (some g) := ⟨rfl, rfl, rfl, by simp, fun k _ hk => Below.heap_setCell _ _ _ _ (fun e => hk (by simp [e]))⟩
    have hvv : ∀ b, (Value.slice A1 (cs.length + 1) k1).ownBlock = some b → g < b := fun b hb => by have := (hown1.lt b hb).1; omega
    have howns : (Value.slice A1 (cs.length + 1) k1).ownBlock = own ∨ ∃ b, (Value.slice A1 (cs.length + 1) k1).ownBlock = some b ∧ w.heap.size ≤ b := by
      rcases hat1 with h | h
      · exact .inl (h.trans H3'.out)
      · exact .inr ⟨_, h, by simp⟩
    have hinner : ∀ b, inS w g own b → inS (w3.setCell ⟨g, 1, none⟩ (Value.slice A1 (cs.length + 1) k1)) g (Value.slice A1 (cs.length + 1) k1).ownBlock b := fun b hb => ⟨by simp; omega, hb.2.1, by
      rcases howns with h | ⟨b', h, hb'⟩
      · rw [h]; exact hb.2.2
      · rw [h]; intro e; simp at e; omega⟩
    refine ⟨rfl, (Value.slice A1 (cs.length + 1) k1).ownBlock, ⟨(Value.slice A1 (cs.length + 1) k1), xs ++ [.slice A9 c.length k9], ?_, ?_, rfl, fun i hi u hu => ?_⟩, howns, hag, ?_⟩
    · have := heap_setCell_same w3 g 1 _ _ (Value.slice A1 (cs.length + 1) k1) Hgb.out
      rw [this]
      simp [show ¬ 16384 < cs.length by omega, show ¬ 16384 < cs.length + 1 by omega]
    · have h5 : min (cs ++ [c]).length 16384 = cs.length + 1 := by simp; omega
      rw [h5]
      refine hown1.kept hgr ?_
      cases ho : (Value.slice A1 (cs.length + 1) k1).ownBlock with
      | none => exact .inl rfl
      | some b => exact .inr (by have := hvv b ho; simp; omega)
    · have hxl : xs.length = cs.length := by have := H2'.out.1; simpa using this
      rcases Nat.lt_or_ge i cs.length with h | h
      · rw [List.getElem?_append_left (by omega)] at hu
        rw [List.getElem_append_left h]
        exact RInts.stable _ _ _ _ _ _ (H4.out i h u hu) hag hinner
      · have hie : i = cs.length := by simp at hi; omega
        subst hie
        rw [List.getElem?_append_right (by omega), hxl] at hu
        simp at hu
        subst hu
        simp only [List.getElem_append_right (Nat.le_refl _), Nat.sub_self, List.getElem_cons_zero]
        exact RInts.stable _ _ _ _ _ _ Hl.out hag hinner
    · refine (((Below.refl g w).alloc (Nat.le_of_lt hgw) _).grown hg1 (by simp; omega) (fun b hb => ?_)).setCell (p := ⟨g, 1, none⟩) (Nat.le_refl g) _
      have := Hlt.out.2 b (by rw [← H3'.out]; exact hb)
      omega
end Go.Proofs.Ytlaihjhkghbfkaa
