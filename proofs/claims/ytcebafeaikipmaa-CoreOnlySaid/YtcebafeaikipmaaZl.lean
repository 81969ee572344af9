/- newSolver: one without clauses. / back: to a level. / truths: of the variables. -/
import Derived.Deep.DeepCutAuto
import Derived.Deep.RegionHeld3
import Derived.BigRegion
import Derived.Test.YtcebafeaikipmaaZb
import Derived.Test.YtcebafeaikipmaaZg
namespace Go.Proofs.Ytcebafeaikipmaa.S15
open Go.RowKit

def nilV : Rl → Value := fun _ => .slice none 0 0
/-- a solver without any row -/
def bareS (n : Nat) : St := { vars := n, cls := [], clauses := [], learned := [], watch := [], value := [], level := [], reason := [], phase := [], act := [], step := 16, trail := [], ends := [], done := 0, proof := [], seen := [] }
def st1 (n : Nat) : St := { bareS n with watch := List.replicate (2 * (n + 1)) [], value := List.replicate (2 * (n + 1)) 0 }
def st2 (n : Nat) : St := { st1 n with level := List.replicate (n + 1) 0, act := List.replicate (n + 1) 0 }
section
variable {w W : World} {S : Nat} {vl : Rl → Value} {n : Nat}
/-- the first two rows -/
theorem new1 (h : SAt w S S [] nilV (bareS n)) (hb : Below w.heap.size w W) {a b : Nat} (hab : a ≠ b) (ha : w.heap.size ≤ a) (hb2 : w.heap.size ≤ b) (o1 : OwnG W w.heap.size 86 (.slice (some ⟨a, 0, none⟩) (2 * (n + 1)) (2 * (n + 1))) (List.replicate (2 * (n + 1)) (.slice none 0 0)))
    (o2 : OwnG W w.heap.size 5 (.slice (some ⟨b, 0, none⟩) (2 * (n + 1)) (2 * (n + 1))) (List.replicate (2 * (n + 1)) (.int .u8 0))) :
    ∃ vl1, SAt ((W.setCell ⟨S, 3, none⟩ (.slice (some ⟨a, 0, none⟩) (2 * (n + 1)) (2 * (n + 1)))).setCell ⟨S, 4, none⟩ (.slice (some ⟨b, 0, none⟩) (2 * (n + 1)) (2 * (n + 1)))) S S [] vl1 (st1 n) ∧ ∀ r, r ≠ .wt → r ≠ .va → vl1 r = .slice none 0 0 := by
  have hsz := h.size
  have hfp : ∀ g, w.heap.size ≤ g → ¬ FP S [] nilV g := fun g hg hf => by have := (h.fpLo hf).2; omega
  have h1 := (h.new hb).setFree .wt (v := .slice (some ⟨a, 0, none⟩) (2 * (n + 1)) (2 * (n + 1))) 3 { bareS n with watch := List.replicate (2 * (n + 1)) [] } (own_base (by
      have e : cont { bareS n with watch := List.replicate (2 * (n + 1)) [] } [] (updV nilV .wt (.slice (some ⟨a, 0, none⟩) (2 * (n + 1)) (2 * (n + 1)))) .wt = List.replicate (2 * (n + 1)) (.slice none 0 0) := by
        apply List.ext_getElem
        · simp [cont]
        · intro i h1 h2
          simp [cont, updV, nilV]
      rw [e]; exact o1) hsz) (fun g hg => by cases hg; exact hfp _ ha) (fun r hr => by
      cases r with
      | wr i =>
        simp only [cont, bareS, List.getD_eq_getElem?_getD, List.getElem?_replicate]
        split <;> rfl
      | wt => exact absurd rfl hr
      | pr => simp [cont, bareS]
      | _ => rfl) rfl rfl (fun c hc => by simp [bareS] at hc)
  have o2' : OwnG (W.setCell ⟨S, 3, none⟩ (.slice (some ⟨a, 0, none⟩) (2 * (n + 1)) (2 * (n + 1)))) w.heap.size 5 (.slice (some ⟨b, 0, none⟩) (2 * (n + 1)) (2 * (n + 1))) (List.replicate (2 * (n + 1)) (.int .u8 0)) := o2.kp fun g hg => kp_set _ _ _ _ fun e => by cases hg; have e2 : b = S := e; have := h.lt; omega
  have h2 := h1.setFree .va (v := .slice (some ⟨b, 0, none⟩) (2 * (n + 1)) (2 * (n + 1))) 4 (st1 n) (own_base (by
      have e : cont (st1 n) [] (updV (updV nilV .wt (.slice (some ⟨a, 0, none⟩) (2 * (n + 1)) (2 * (n + 1)))) .va (.slice (some ⟨b, 0, none⟩) (2 * (n + 1)) (2 * (n + 1)))) .va = List.replicate (2 * (n + 1)) (.int .u8 0) := by simp [cont, st1]
      rw [e]; exact o2') hsz) (fun g hg => by cases hg; exact fp_free (hfp _ hb2) (by simpa [Value.ownBlock] using hab)) (fun r hr => by
      cases r with
      | wt => exact List.map_congr_left fun i _ => updV_ne _ _ (by simp)
      | va => exact absurd rfl hr
      | pr => simp [cont, st1, bareS]
      | _ => rfl) rfl rfl (fun c hc => by simp [bareS] at hc)
  exact ⟨_, h2, fun r h1 h2 => by rw [updV_ne _ _ h2, updV_ne _ _ h1]; rfl⟩
/-- levels and activities -/
theorem new2 (h : SAt w S S [] vl (st1 n)) (hnil : ∀ r, r ≠ .wt → r ≠ .va → vl r = .slice none 0 0) (hb : Below w.heap.size w W) {a b : Nat} (hab : a ≠ b) (ha : w.heap.size ≤ a) (hb2 : w.heap.size ≤ b) (o1 : OwnG W w.heap.size 3 (.slice (some ⟨a, 0, none⟩) (n + 1) (n + 1)) (List.replicate (n + 1) (.int .i64 0)))
    (o2 : OwnG W w.heap.size 3 (.slice (some ⟨b, 0, none⟩) (n + 1) (n + 1)) (List.replicate (n + 1) (.int .i64 0))) :
    ∃ vl1, SAt ((W.setCell ⟨S, 5, none⟩ (.slice (some ⟨a, 0, none⟩) (n + 1) (n + 1))).setCell ⟨S, 8, none⟩ (.slice (some ⟨b, 0, none⟩) (n + 1) (n + 1))) S S [] vl1 (st2 n) ∧ ∀ r, r ≠ .wt → r ≠ .va → r ≠ .le → r ≠ .ac → vl1 r = .slice none 0 0 := by
  have hsz := h.size
  have hfp : ∀ g, w.heap.size ≤ g → ¬ FP S [] vl g := fun g hg hf => by have := (h.fpLo hf).2; omega
  have h1 := (h.new hb).setFree .le (v := .slice (some ⟨a, 0, none⟩) (n + 1) (n + 1)) 5 { st1 n with level := List.replicate (n + 1) 0 } (own_base (by
      have e : cont { st1 n with level := List.replicate (n + 1) 0 } [] (updV vl .le (.slice (some ⟨a, 0, none⟩) (n + 1) (n + 1))) .le = List.replicate (n + 1) (.int .i64 0) := by simp [cont]
      rw [e]; exact o1) hsz) (fun g hg => by cases hg; exact hfp _ ha) (fun r hr => by
      cases r with
      | wt => exact List.map_congr_left fun i _ => updV_ne _ _ (by simp)
      | le => exact absurd rfl hr
      | pr => simp [cont, st1, bareS]
      | _ => rfl) rfl rfl (fun c hc => by simp [st1, bareS] at hc)
  have o2' : OwnG (W.setCell ⟨S, 5, none⟩ (.slice (some ⟨a, 0, none⟩) (n + 1) (n + 1))) w.heap.size 3 (.slice (some ⟨b, 0, none⟩) (n + 1) (n + 1)) (List.replicate (n + 1) (.int .i64 0)) := o2.kp fun g hg => kp_set _ _ _ _ fun e => by cases hg; have e2 : b = S := e; have := h.lt; omega
  have h2 := h1.setFree .ac (v := .slice (some ⟨b, 0, none⟩) (n + 1) (n + 1)) 8 (st2 n) (own_base (by
      have e : cont (st2 n) [] (updV (updV vl .le (.slice (some ⟨a, 0, none⟩) (n + 1) (n + 1))) .ac (.slice (some ⟨b, 0, none⟩) (n + 1) (n + 1))) .ac = List.replicate (n + 1) (.int .i64 0) := by simp [cont, st2]
      rw [e]; exact o2') hsz) (fun g hg => by cases hg; exact fp_free (hfp _ hb2) (by simpa [Value.ownBlock] using hab)) (fun r hr => by
      cases r with
      | wt => exact List.map_congr_left fun i _ => updV_ne _ _ (by simp)
      | ac => exact absurd rfl hr
      | pr => simp [cont, st2, st1, bareS]
      | _ => rfl) rfl rfl (fun c hc => by simp [st1, bareS] at hc)
  exact ⟨_, h2, fun r h1 h2 h3 h4 => by rw [updV_ne _ _ h4, updV_ne _ _ h3]; exact hnil r h1 h2⟩
/-- reasons, phases, what was seen -/
theorem new3 (h : SAt w S S [] vl (st2 n)) (hb : Below w.heap.size w W) {a b c : Nat} (hab : a ≠ b) (hac : a ≠ c) (hbc : b ≠ c) (ha : w.heap.size ≤ a) (hb2 : w.heap.size ≤ b) (hc2 : w.heap.size ≤ c) (o1 : OwnG W w.heap.size 96 (.slice (some ⟨a, 0, none⟩) (n + 1) (n + 1)) (List.replicate (n + 1) (.pointer none)))
    (o2 : OwnG W w.heap.size 4 (.slice (some ⟨b, 0, none⟩) (n + 1) (n + 1)) (List.replicate (n + 1) (.bool false))) (o3 : OwnG W w.heap.size 4 (.slice (some ⟨c, 0, none⟩) (n + 1) (n + 1)) (List.replicate (n + 1) (.bool false))) :
    ∃ vl1, SAt (((W.setCell ⟨S, 6, none⟩ (.slice (some ⟨a, 0, none⟩) (n + 1) (n + 1))).setCell ⟨S, 7, none⟩ (.slice (some ⟨b, 0, none⟩) (n + 1) (n + 1))).setCell ⟨S, 14, none⟩ (.slice (some ⟨c, 0, none⟩) (n + 1) (n + 1))) S S [] vl1 (newS n) := by
  have hsz := h.size
  have hfp : ∀ g, w.heap.size ≤ g → ¬ FP S [] vl g := fun g hg hf => by have := (h.fpLo hf).2; omega
  have hlt := h.lt
  have h1 := (h.new hb).setFree .re (v := .slice (some ⟨a, 0, none⟩) (n + 1) (n + 1)) 6 { st2 n with reason := List.replicate (n + 1) none } (own_base (by
      have e : cont { st2 n with reason := List.replicate (n + 1) none } [] (updV vl .re (.slice (some ⟨a, 0, none⟩) (n + 1) (n + 1))) .re = List.replicate (n + 1) (.pointer none) := by simp [cont, oC]
      rw [e]; exact o1) hsz) (fun g hg => by cases hg; exact hfp _ ha) (fun r hr => by
      cases r with
      | wt => exact List.map_congr_left fun i _ => updV_ne _ _ (by simp)
      | re => exact absurd rfl hr
      | pr => simp [cont, st2, st1, bareS]
      | _ => rfl) rfl rfl (fun c hc => by simp [st2, st1, bareS] at hc)
  have o2' : OwnG (W.setCell ⟨S, 6, none⟩ (.slice (some ⟨a, 0, none⟩) (n + 1) (n + 1))) w.heap.size 4 (.slice (some ⟨b, 0, none⟩) (n + 1) (n + 1)) (List.replicate (n + 1) (.bool false)) := o2.kp fun g hg => kp_set _ _ _ _ fun e => by cases hg; have e2 : b = S := e; omega
  have h2 := h1.setFree .ph (v := .slice (some ⟨b, 0, none⟩) (n + 1) (n + 1)) 7 { st2 n with reason := List.replicate (n + 1) none, phase := List.replicate (n + 1) false } (own_base (by
      have e : cont { st2 n with reason := List.replicate (n + 1) none, phase := List.replicate (n + 1) false } [] (updV (updV vl .re (.slice (some ⟨a, 0, none⟩) (n + 1) (n + 1))) .ph (.slice (some ⟨b, 0, none⟩) (n + 1) (n + 1))) .ph = List.replicate (n + 1) (.bool false) := by simp [cont]
      rw [e]; exact o2') hsz) (fun g hg => by cases hg; exact fp_free (hfp _ hb2) (by simpa [Value.ownBlock] using hab)) (fun r hr => by
      cases r with
      | wt => exact List.map_congr_left fun i _ => updV_ne _ _ (by simp)
      | ph => exact absurd rfl hr
      | pr => simp [cont, st2, st1, bareS]
      | _ => rfl) rfl rfl (fun c hc => by simp [st2, st1, bareS] at hc)
  have o3' : OwnG ((W.setCell ⟨S, 6, none⟩ (.slice (some ⟨a, 0, none⟩) (n + 1) (n + 1))).setCell ⟨S, 7, none⟩ (.slice (some ⟨b, 0, none⟩) (n + 1) (n + 1))) w.heap.size 4 (.slice (some ⟨c, 0, none⟩) (n + 1) (n + 1)) (List.replicate (n + 1) (.bool false)) :=
    (o3.kp fun g hg => kp_set _ _ _ _ fun e => by cases hg; have e2 : c = S := e; omega).kp fun g hg => kp_set _ _ _ _ fun e => by cases hg; have e2 : c = S := e; omega
  have h3 := h2.setFree .se (v := .slice (some ⟨c, 0, none⟩) (n + 1) (n + 1)) 14 (newS n) (own_base (by
      have e : cont (newS n) [] (updV (updV (updV vl .re (.slice (some ⟨a, 0, none⟩) (n + 1) (n + 1))) .ph (.slice (some ⟨b, 0, none⟩) (n + 1) (n + 1))) .se (.slice (some ⟨c, 0, none⟩) (n + 1) (n + 1))) .se = List.replicate (n + 1) (.bool false) := by simp [cont, newS]
      rw [e]; exact o3') hsz) (fun g hg => by cases hg; exact fp_free (fp_free (hfp _ hc2) (by simpa [Value.ownBlock] using hac)) (by simpa [Value.ownBlock] using hbc)) (fun r hr => by
      cases r with
      | wt => exact List.map_congr_left fun i _ => updV_ne _ _ (by simp)
      | se => exact absurd rfl hr
      | pr => simp [cont, st2, st1, bareS, newS]
      | _ => rfl) rfl rfl (fun c hc => by simp [st2, st1, bareS] at hc)
  exact ⟨_, h3⟩
end
theorem below_two {S : Nat} {w1 wQ : World} (h : Below S w1 wQ) (hS : S ≤ wQ.heap.size) (i j : Nat) (u v : Value) (X Y : Obj) : Below S w1 ((((wQ.setCell ⟨S, i, none⟩ u).setCell ⟨S, j, none⟩ v).alloc X).alloc Y).drew :=
  h.trans (((((Below.refl S wQ).setCell (p := ⟨S, i, none⟩) (Nat.le_refl S) u).setCell (p := ⟨S, j, none⟩) (Nat.le_refl S) v).alloc (by simpa using hS) X).alloc (by simp; omega) Y).drew
theorem below_three {S : Nat} {w1 wQ : World} (h : Below S w1 wQ) (hS : S ≤ wQ.heap.size) (i j k : Nat) (u v x : Value) (X Y Z : Obj) : Below S w1 ((((((wQ.setCell ⟨S, i, none⟩ u).setCell ⟨S, j, none⟩ v).setCell ⟨S, k, none⟩ x).alloc X).alloc Y).alloc Z).drew :=
  h.trans (((((((Below.refl S wQ).setCell (p := ⟨S, i, none⟩) (Nat.le_refl S) u).setCell (p := ⟨S, j, none⟩) (Nat.le_refl S) v).setCell (p := ⟨S, k, none⟩) (Nat.le_refl S) x).alloc (by simpa using hS) X).alloc (by simp; omega) Y).alloc (by simp; omega) Z).drew
theorem past_one2 (w : World) {S : Nat} (h : S < w.heap.size) (X Y : Obj) (i : Nat) (u : Value) : ((w.alloc X).alloc Y).setCell ⟨S, i, none⟩ u = ((w.setCell ⟨S, i, none⟩ u).alloc X).alloc Y := by
  rw [World.setCell_alloc_past _ _ _ _ (by simp; omega), World.setCell_alloc_past _ _ _ _ h]
theorem past_one3 (w : World) {S : Nat} (h : S < w.heap.size) (X Y Z : Obj) (i : Nat) (u : Value) : (((w.alloc X).alloc Y).alloc Z).setCell ⟨S, i, none⟩ u = (((w.setCell ⟨S, i, none⟩ u).alloc X).alloc Y).alloc Z := by
  rw [World.setCell_alloc_past _ _ _ _ (by simp; omega), past_one2 w h]
theorem past2 (w : World) {S : Nat} (h : S < w.heap.size) (X Y : Obj) (i j : Nat) (u v : Value) : (((w.alloc X).alloc Y).setCell ⟨S, i, none⟩ u).setCell ⟨S, j, none⟩ v = (((w.setCell ⟨S, i, none⟩ u).setCell ⟨S, j, none⟩ v).alloc X).alloc Y := by
  rw [past_one2 w h, past_one2 _ (by simpa using h)]
theorem past3 (w : World) {S : Nat} (h : S < w.heap.size) (X Y Z : Obj) (i j k : Nat) (u v x : Value) : (((((w.alloc X).alloc Y).alloc Z).setCell ⟨S, i, none⟩ u).setCell ⟨S, j, none⟩ v).setCell ⟨S, k, none⟩ x = (((((w.setCell ⟨S, i, none⟩ u).setCell ⟨S, j, none⟩ v).setCell ⟨S, k, none⟩ x).alloc X).alloc Y).alloc Z := by
  rw [past_one3 w h, past_one3 _ (by simpa using h), past_one3 _ (by simpa using h)]
section
variable {w : World} {S : Nat} {vl : Rl → Value} {n : Nat}
theorem fin1a {w1 : World} (h : SAt w S S [] nilV (bareS n)) (hn : n ≤ 2000) (hB : Below S w1 w) : ∃ vl1, Hid (SAt ((((w.setCell ⟨S, 3, none⟩ (.slice (some ⟨w.heap.size, 0, none⟩) (2 * (n + 1)) (2 * (n + 1)))).setCell ⟨S, 4, none⟩ (.slice (some ⟨w.heap.size + 1, 0, none⟩) (2 * (n + 1)) (2 * (n + 1)))).alloc (.cells (madeCells #[(.slice none 0 0)] (2 * (n + 1))) 86)).alloc (.cells (madeCells #[(.int .u8 0)] (2 * (n + 1))) 5)).drew S S [] vl1 (st1 n) ∧ ∀ r, r ≠ .wt → r ≠ .va → vl1 r = .slice none 0 0) ∧ Hid (Below S w1 ((((w.setCell ⟨S, 3, none⟩ (.slice (some ⟨w.heap.size, 0, none⟩) (2 * (n + 1)) (2 * (n + 1)))).setCell ⟨S, 4, none⟩ (.slice (some ⟨w.heap.size + 1, 0, none⟩) (2 * (n + 1)) (2 * (n + 1)))).alloc (.cells (madeCells #[(.slice none 0 0)] (2 * (n + 1))) 86)).alloc (.cells (madeCells #[(.int .u8 0)] (2 * (n + 1))) 5)).drew) := by
  obtain ⟨m1, m2, mb⟩ := made_two w 86 5 (.slice none 0 0) (.int .u8 0) (n := 2 * (n + 1)) (by omega) rfl
  obtain ⟨vl2, k1, k2⟩ := new1 h mb (a := w.heap.size) (b := w.heap.size + 1) (by omega) (by omega) (by omega) m1 m2
  rw [past2 w h.lt] at k1
  exact ⟨vl2, Lib.hid ⟨k1.new (Below.refl _ _).drew, k2⟩, Lib.hid (below_two hB (Nat.le_of_lt h.lt) _ _ _ _ _ _)⟩
theorem fin1b {w1 : World} (h : SAt w S S [] nilV (bareS n)) (hn : n ≤ 2000) (hB : Below S w1 w) : ∃ vl1, Hid (SAt ((((w.setCell ⟨S, 3, none⟩ (.slice (some ⟨w.heap.size + 1, 0, none⟩) (2 * (n + 1)) (2 * (n + 1)))).setCell ⟨S, 4, none⟩ (.slice (some ⟨w.heap.size, 0, none⟩) (2 * (n + 1)) (2 * (n + 1)))).alloc (.cells (madeCells #[(.int .u8 0)] (2 * (n + 1))) 5)).alloc (.cells (madeCells #[(.slice none 0 0)] (2 * (n + 1))) 86)).drew S S [] vl1 (st1 n) ∧ ∀ r, r ≠ .wt → r ≠ .va → vl1 r = .slice none 0 0) ∧ Hid (Below S w1 ((((w.setCell ⟨S, 3, none⟩ (.slice (some ⟨w.heap.size + 1, 0, none⟩) (2 * (n + 1)) (2 * (n + 1)))).setCell ⟨S, 4, none⟩ (.slice (some ⟨w.heap.size, 0, none⟩) (2 * (n + 1)) (2 * (n + 1)))).alloc (.cells (madeCells #[(.int .u8 0)] (2 * (n + 1))) 5)).alloc (.cells (madeCells #[(.slice none 0 0)] (2 * (n + 1))) 86)).drew) := by
  obtain ⟨m1, m2, mb⟩ := made_two w 5 86 (.int .u8 0) (.slice none 0 0) (n := 2 * (n + 1)) (by omega) rfl
  obtain ⟨vl2, k1, k2⟩ := new1 h mb (a := w.heap.size + 1) (b := w.heap.size) (by omega) (by omega) (by omega) m2 m1
  rw [past2 w h.lt] at k1
  exact ⟨vl2, Lib.hid ⟨k1.new (Below.refl _ _).drew, k2⟩, Lib.hid (below_two hB (Nat.le_of_lt h.lt) _ _ _ _ _ _)⟩
theorem fin2a {w1 : World} (h : SAt w S S [] vl (st1 n)) (hnil : ∀ r, r ≠ .wt → r ≠ .va → vl r = .slice none 0 0) (hn : n ≤ 2000) (hB : Below S w1 w) : ∃ vl1, Hid (SAt ((((w.setCell ⟨S, 5, none⟩ (.slice (some ⟨w.heap.size, 0, none⟩) (n + 1) (n + 1))).setCell ⟨S, 8, none⟩ (.slice (some ⟨w.heap.size + 1, 0, none⟩) (n + 1) (n + 1))).alloc (.cells (madeCells #[(.int .i64 0)] (n + 1)) 3)).alloc (.cells (madeCells #[(.int .i64 0)] (n + 1)) 3)).drew S S [] vl1 (st2 n) ∧ ∀ r, r ≠ .wt → r ≠ .va → r ≠ .le → r ≠ .ac → vl1 r = .slice none 0 0) ∧ Hid (Below S w1 ((((w.setCell ⟨S, 5, none⟩ (.slice (some ⟨w.heap.size, 0, none⟩) (n + 1) (n + 1))).setCell ⟨S, 8, none⟩ (.slice (some ⟨w.heap.size + 1, 0, none⟩) (n + 1) (n + 1))).alloc (.cells (madeCells #[(.int .i64 0)] (n + 1)) 3)).alloc (.cells (madeCells #[(.int .i64 0)] (n + 1)) 3)).drew) := by
  obtain ⟨m1, m2, mb⟩ := made_two w 3 3 (.int .i64 0) (.int .i64 0) (n := n + 1) (by omega) rfl
  obtain ⟨vl2, k1, k2⟩ := new2 h hnil mb (a := w.heap.size) (b := w.heap.size + 1) (by omega) (by omega) (by omega) m1 m2
  rw [past2 w h.lt] at k1
  exact ⟨vl2, Lib.hid ⟨k1.new (Below.refl _ _).drew, k2⟩, Lib.hid (below_two hB (Nat.le_of_lt h.lt) _ _ _ _ _ _)⟩
theorem fin2b {w1 : World} (h : SAt w S S [] vl (st1 n)) (hnil : ∀ r, r ≠ .wt → r ≠ .va → vl r = .slice none 0 0) (hn : n ≤ 2000) (hB : Below S w1 w) : ∃ vl1, Hid (SAt ((((w.setCell ⟨S, 5, none⟩ (.slice (some ⟨w.heap.size + 1, 0, none⟩) (n + 1) (n + 1))).setCell ⟨S, 8, none⟩ (.slice (some ⟨w.heap.size, 0, none⟩) (n + 1) (n + 1))).alloc (.cells (madeCells #[(.int .i64 0)] (n + 1)) 3)).alloc (.cells (madeCells #[(.int .i64 0)] (n + 1)) 3)).drew S S [] vl1 (st2 n) ∧ ∀ r, r ≠ .wt → r ≠ .va → r ≠ .le → r ≠ .ac → vl1 r = .slice none 0 0) ∧ Hid (Below S w1 ((((w.setCell ⟨S, 5, none⟩ (.slice (some ⟨w.heap.size + 1, 0, none⟩) (n + 1) (n + 1))).setCell ⟨S, 8, none⟩ (.slice (some ⟨w.heap.size, 0, none⟩) (n + 1) (n + 1))).alloc (.cells (madeCells #[(.int .i64 0)] (n + 1)) 3)).alloc (.cells (madeCells #[(.int .i64 0)] (n + 1)) 3)).drew) := by
  obtain ⟨m1, m2, mb⟩ := made_two w 3 3 (.int .i64 0) (.int .i64 0) (n := n + 1) (by omega) rfl
  obtain ⟨vl2, k1, k2⟩ := new2 h hnil mb (a := w.heap.size + 1) (b := w.heap.size) (by omega) (by omega) (by omega) m2 m1
  rw [past2 w h.lt] at k1
  exact ⟨vl2, Lib.hid ⟨k1.new (Below.refl _ _).drew, k2⟩, Lib.hid (below_two hB (Nat.le_of_lt h.lt) _ _ _ _ _ _)⟩
theorem fin3a {w1 : World} (h : SAt w S S [] vl (st2 n)) (hn : n ≤ 2000) (hB : Below S w1 w) : ∃ vl1, Hid (SAt ((((((w.setCell ⟨S, 6, none⟩ (.slice (some ⟨w.heap.size, 0, none⟩) (n + 1) (n + 1))).setCell ⟨S, 7, none⟩ (.slice (some ⟨w.heap.size + 1, 0, none⟩) (n + 1) (n + 1))).setCell ⟨S, 14, none⟩ (.slice (some ⟨w.heap.size + 1 + 1, 0, none⟩) (n + 1) (n + 1))).alloc (.cells (madeCells #[(.pointer none)] (n + 1)) 96)).alloc (.cells (madeCells #[(.bool false)] (n + 1)) 4)).alloc (.cells (madeCells #[(.bool false)] (n + 1)) 4)).drew S S [] vl1 (newS n)) ∧ Hid (Below S w1 ((((((w.setCell ⟨S, 6, none⟩ (.slice (some ⟨w.heap.size, 0, none⟩) (n + 1) (n + 1))).setCell ⟨S, 7, none⟩ (.slice (some ⟨w.heap.size + 1, 0, none⟩) (n + 1) (n + 1))).setCell ⟨S, 14, none⟩ (.slice (some ⟨w.heap.size + 1 + 1, 0, none⟩) (n + 1) (n + 1))).alloc (.cells (madeCells #[(.pointer none)] (n + 1)) 96)).alloc (.cells (madeCells #[(.bool false)] (n + 1)) 4)).alloc (.cells (madeCells #[(.bool false)] (n + 1)) 4)).drew) := by
  obtain ⟨m1, m2, m3, mb⟩ := made_three w 96 4 4 (.pointer none) (.bool false) (.bool false) (n := n + 1) (by omega) rfl
  obtain ⟨vl2, k1⟩ := new3 h mb (a := w.heap.size) (b := w.heap.size + 1) (c := w.heap.size + 1 + 1) (by omega) (by omega) (by omega) (by omega) (by omega) (by omega) m1 m2 m3
  rw [past3 w h.lt] at k1
  exact ⟨vl2, Lib.hid (k1.new (Below.refl _ _).drew), Lib.hid (below_three hB (Nat.le_of_lt h.lt) _ _ _ _ _ _ _ _ _)⟩
theorem fin3b {w1 : World} (h : SAt w S S [] vl (st2 n)) (hn : n ≤ 2000) (hB : Below S w1 w) : ∃ vl1, Hid (SAt ((((((w.setCell ⟨S, 6, none⟩ (.slice (some ⟨w.heap.size, 0, none⟩) (n + 1) (n + 1))).setCell ⟨S, 7, none⟩ (.slice (some ⟨w.heap.size + 1 + 1, 0, none⟩) (n + 1) (n + 1))).setCell ⟨S, 14, none⟩ (.slice (some ⟨w.heap.size + 1, 0, none⟩) (n + 1) (n + 1))).alloc (.cells (madeCells #[(.pointer none)] (n + 1)) 96)).alloc (.cells (madeCells #[(.bool false)] (n + 1)) 4)).alloc (.cells (madeCells #[(.bool false)] (n + 1)) 4)).drew S S [] vl1 (newS n)) ∧ Hid (Below S w1 ((((((w.setCell ⟨S, 6, none⟩ (.slice (some ⟨w.heap.size, 0, none⟩) (n + 1) (n + 1))).setCell ⟨S, 7, none⟩ (.slice (some ⟨w.heap.size + 1 + 1, 0, none⟩) (n + 1) (n + 1))).setCell ⟨S, 14, none⟩ (.slice (some ⟨w.heap.size + 1, 0, none⟩) (n + 1) (n + 1))).alloc (.cells (madeCells #[(.pointer none)] (n + 1)) 96)).alloc (.cells (madeCells #[(.bool false)] (n + 1)) 4)).alloc (.cells (madeCells #[(.bool false)] (n + 1)) 4)).drew) := by
  obtain ⟨m1, m2, m3, mb⟩ := made_three w 96 4 4 (.pointer none) (.bool false) (.bool false) (n := n + 1) (by omega) rfl
  obtain ⟨vl2, k1⟩ := new3 h mb (a := w.heap.size) (b := w.heap.size + 1 + 1) (c := w.heap.size + 1) (by omega) (by omega) (by omega) (by omega) (by omega) (by omega) m1 m3 m2
  rw [past3 w h.lt] at k1
  exact ⟨vl2, Lib.hid (k1.new (Below.refl _ _).drew), Lib.hid (below_three hB (Nat.le_of_lt h.lt) _ _ _ _ _ _ _ _ _)⟩
theorem fin3c {w1 : World} (h : SAt w S S [] vl (st2 n)) (hn : n ≤ 2000) (hB : Below S w1 w) : ∃ vl1, Hid (SAt ((((((w.setCell ⟨S, 6, none⟩ (.slice (some ⟨w.heap.size + 1, 0, none⟩) (n + 1) (n + 1))).setCell ⟨S, 7, none⟩ (.slice (some ⟨w.heap.size, 0, none⟩) (n + 1) (n + 1))).setCell ⟨S, 14, none⟩ (.slice (some ⟨w.heap.size + 1 + 1, 0, none⟩) (n + 1) (n + 1))).alloc (.cells (madeCells #[(.bool false)] (n + 1)) 4)).alloc (.cells (madeCells #[(.pointer none)] (n + 1)) 96)).alloc (.cells (madeCells #[(.bool false)] (n + 1)) 4)).drew S S [] vl1 (newS n)) ∧ Hid (Below S w1 ((((((w.setCell ⟨S, 6, none⟩ (.slice (some ⟨w.heap.size + 1, 0, none⟩) (n + 1) (n + 1))).setCell ⟨S, 7, none⟩ (.slice (some ⟨w.heap.size, 0, none⟩) (n + 1) (n + 1))).setCell ⟨S, 14, none⟩ (.slice (some ⟨w.heap.size + 1 + 1, 0, none⟩) (n + 1) (n + 1))).alloc (.cells (madeCells #[(.bool false)] (n + 1)) 4)).alloc (.cells (madeCells #[(.pointer none)] (n + 1)) 96)).alloc (.cells (madeCells #[(.bool false)] (n + 1)) 4)).drew) := by
  obtain ⟨m1, m2, m3, mb⟩ := made_three w 4 96 4 (.bool false) (.pointer none) (.bool false) (n := n + 1) (by omega) rfl
  obtain ⟨vl2, k1⟩ := new3 h mb (a := w.heap.size + 1) (b := w.heap.size) (c := w.heap.size + 1 + 1) (by omega) (by omega) (by omega) (by omega) (by omega) (by omega) m2 m1 m3
  rw [past3 w h.lt] at k1
  exact ⟨vl2, Lib.hid (k1.new (Below.refl _ _).drew), Lib.hid (below_three hB (Nat.le_of_lt h.lt) _ _ _ _ _ _ _ _ _)⟩
theorem fin3d {w1 : World} (h : SAt w S S [] vl (st2 n)) (hn : n ≤ 2000) (hB : Below S w1 w) : ∃ vl1, Hid (SAt ((((((w.setCell ⟨S, 6, none⟩ (.slice (some ⟨w.heap.size + 1 + 1, 0, none⟩) (n + 1) (n + 1))).setCell ⟨S, 7, none⟩ (.slice (some ⟨w.heap.size, 0, none⟩) (n + 1) (n + 1))).setCell ⟨S, 14, none⟩ (.slice (some ⟨w.heap.size + 1, 0, none⟩) (n + 1) (n + 1))).alloc (.cells (madeCells #[(.bool false)] (n + 1)) 4)).alloc (.cells (madeCells #[(.bool false)] (n + 1)) 4)).alloc (.cells (madeCells #[(.pointer none)] (n + 1)) 96)).drew S S [] vl1 (newS n)) ∧ Hid (Below S w1 ((((((w.setCell ⟨S, 6, none⟩ (.slice (some ⟨w.heap.size + 1 + 1, 0, none⟩) (n + 1) (n + 1))).setCell ⟨S, 7, none⟩ (.slice (some ⟨w.heap.size, 0, none⟩) (n + 1) (n + 1))).setCell ⟨S, 14, none⟩ (.slice (some ⟨w.heap.size + 1, 0, none⟩) (n + 1) (n + 1))).alloc (.cells (madeCells #[(.bool false)] (n + 1)) 4)).alloc (.cells (madeCells #[(.bool false)] (n + 1)) 4)).alloc (.cells (madeCells #[(.pointer none)] (n + 1)) 96)).drew) := by
  obtain ⟨m1, m2, m3, mb⟩ := made_three w 4 4 96 (.bool false) (.bool false) (.pointer none) (n := n + 1) (by omega) rfl
  obtain ⟨vl2, k1⟩ := new3 h mb (a := w.heap.size + 1 + 1) (b := w.heap.size) (c := w.heap.size + 1) (by omega) (by omega) (by omega) (by omega) (by omega) (by omega) m3 m1 m2
  rw [past3 w h.lt] at k1
  exact ⟨vl2, Lib.hid (k1.new (Below.refl _ _).drew), Lib.hid (below_three hB (Nat.le_of_lt h.lt) _ _ _ _ _ _ _ _ _)⟩
theorem fin3e {w1 : World} (h : SAt w S S [] vl (st2 n)) (hn : n ≤ 2000) (hB : Below S w1 w) : ∃ vl1, Hid (SAt ((((((w.setCell ⟨S, 6, none⟩ (.slice (some ⟨w.heap.size + 1, 0, none⟩) (n + 1) (n + 1))).setCell ⟨S, 7, none⟩ (.slice (some ⟨w.heap.size + 1 + 1, 0, none⟩) (n + 1) (n + 1))).setCell ⟨S, 14, none⟩ (.slice (some ⟨w.heap.size, 0, none⟩) (n + 1) (n + 1))).alloc (.cells (madeCells #[(.bool false)] (n + 1)) 4)).alloc (.cells (madeCells #[(.pointer none)] (n + 1)) 96)).alloc (.cells (madeCells #[(.bool false)] (n + 1)) 4)).drew S S [] vl1 (newS n)) ∧ Hid (Below S w1 ((((((w.setCell ⟨S, 6, none⟩ (.slice (some ⟨w.heap.size + 1, 0, none⟩) (n + 1) (n + 1))).setCell ⟨S, 7, none⟩ (.slice (some ⟨w.heap.size + 1 + 1, 0, none⟩) (n + 1) (n + 1))).setCell ⟨S, 14, none⟩ (.slice (some ⟨w.heap.size, 0, none⟩) (n + 1) (n + 1))).alloc (.cells (madeCells #[(.bool false)] (n + 1)) 4)).alloc (.cells (madeCells #[(.pointer none)] (n + 1)) 96)).alloc (.cells (madeCells #[(.bool false)] (n + 1)) 4)).drew) := by
  obtain ⟨m1, m2, m3, mb⟩ := made_three w 4 96 4 (.bool false) (.pointer none) (.bool false) (n := n + 1) (by omega) rfl
  obtain ⟨vl2, k1⟩ := new3 h mb (a := w.heap.size + 1) (b := w.heap.size + 1 + 1) (c := w.heap.size) (by omega) (by omega) (by omega) (by omega) (by omega) (by omega) m2 m3 m1
  rw [past3 w h.lt] at k1
  exact ⟨vl2, Lib.hid (k1.new (Below.refl _ _).drew), Lib.hid (below_three hB (Nat.le_of_lt h.lt) _ _ _ _ _ _ _ _ _)⟩
theorem fin3f {w1 : World} (h : SAt w S S [] vl (st2 n)) (hn : n ≤ 2000) (hB : Below S w1 w) : ∃ vl1, Hid (SAt ((((((w.setCell ⟨S, 6, none⟩ (.slice (some ⟨w.heap.size + 1 + 1, 0, none⟩) (n + 1) (n + 1))).setCell ⟨S, 7, none⟩ (.slice (some ⟨w.heap.size + 1, 0, none⟩) (n + 1) (n + 1))).setCell ⟨S, 14, none⟩ (.slice (some ⟨w.heap.size, 0, none⟩) (n + 1) (n + 1))).alloc (.cells (madeCells #[(.bool false)] (n + 1)) 4)).alloc (.cells (madeCells #[(.bool false)] (n + 1)) 4)).alloc (.cells (madeCells #[(.pointer none)] (n + 1)) 96)).drew S S [] vl1 (newS n)) ∧ Hid (Below S w1 ((((((w.setCell ⟨S, 6, none⟩ (.slice (some ⟨w.heap.size + 1 + 1, 0, none⟩) (n + 1) (n + 1))).setCell ⟨S, 7, none⟩ (.slice (some ⟨w.heap.size + 1, 0, none⟩) (n + 1) (n + 1))).setCell ⟨S, 14, none⟩ (.slice (some ⟨w.heap.size, 0, none⟩) (n + 1) (n + 1))).alloc (.cells (madeCells #[(.bool false)] (n + 1)) 4)).alloc (.cells (madeCells #[(.bool false)] (n + 1)) 4)).alloc (.cells (madeCells #[(.pointer none)] (n + 1)) 96)).drew) := by
  obtain ⟨m1, m2, m3, mb⟩ := made_three w 4 4 96 (.bool false) (.bool false) (.pointer none) (n := n + 1) (by omega) rfl
  obtain ⟨vl2, k1⟩ := new3 h mb (a := w.heap.size + 1 + 1) (b := w.heap.size + 1) (c := w.heap.size) (by omega) (by omega) (by omega) (by omega) (by omega) (by omega) m3 m2 m1
  rw [past3 w h.lt] at k1
  exact ⟨vl2, Lib.hid (k1.new (Below.refl _ _).drew), Lib.hid (below_three hB (Nat.le_of_lt h.lt) _ _ _ _ _ _ _ _ _)⟩
end
set_option maxRecDepth 100000 in
set_option maxHeartbeats 4000000 in
theorem newSolver_any (n : Nat) (hn : n ≤ 2000) (w : World) :
    Calls Try.prog 42 #[.int .i64 (n : Int)] w fun e w' => ∃ vl, e = .returned (.pointer (some ⟨w.heap.size, 0, none⟩)) ∧ SAt w' w.heap.size w.heap.size [] vl (newS n) ∧ Below w.heap.size w w' := by
  obtain ⟨N, hN⟩ : ∃ N, N = n + 1 := ⟨_, rfl⟩
  obtain ⟨M, hM⟩ : ∃ M, M = 2 * (n + 1) := ⟨_, rfl⟩
  have hN1 : (n : Int) + 1 = (N : Int) := by omega
  have hM1 : (2 : Int) * (N : Int) = (M : Int) := by omega
  have hMw : IntKind.i64.wrap (M : Int) = (M : Int) := wrap_nat (x := (M : Int)) rfl (by omega)
  have mkW := fun (W : World) => run_makeN (P := Try.prog) (t := 87) (e := 86) (bytes := 24) (z := .slice none 0 0) Try.underlying87 (by kernel_rfl) (by omega) rfl M (by omega) W
  have mkB := fun (W : World) => run_makeN (P := Try.prog) (t := 88) (e := 5) (bytes := 1) (z := .int .u8 0) Try.underlying88 (by kernel_rfl) (by omega) rfl M (by omega) W
  have mkI := fun (W : World) => run_makeN (P := Try.prog) (t := 37) (e := 3) (bytes := 8) (z := .int .i64 0) Try.underlying37 (by kernel_rfl) (by omega) rfl N (by omega) W
  have mkC := fun (W : World) => run_makeN (P := Try.prog) (t := 86) (e := 96) (bytes := 8) (z := .pointer none) Try.underlying86 (by kernel_rfl) (by omega) rfl N (by omega) W
  have mkT := fun (W : World) => run_makeN (P := Try.prog) (t := 67) (e := 4) (bytes := 1) (z := .bool false) Try.underlying67 (by kernel_rfl) (by omega) rfl N (by omega) W
  have h0 : SAt (w.alloc (.cells (fieldsS (bareS n) nilV) 91)) w.heap.size w.heap.size [] nilV (bareS n) := by
    refine ⟨fun r => .inl ⟨rfl, ?_⟩, fun r r' g h => (by cases h), heap_alloc_new w _, fun c hc => (by simp [bareS] at hc), Nat.le_refl _, fun c hc => (by simp [bareS] at hc), fun c d hc => (by simp [bareS] at hc), rfl⟩
    cases r <;> simp [cont, bareS, St.cl]
  have hb0 := below_alloc w (.cells (fieldsS (bareS n) nilV) 91)
  obtain ⟨S, hS⟩ : ∃ S, S = w.heap.size := ⟨_, rfl⟩
  obtain ⟨w1, hw1⟩ : ∃ w1, w1 = w.alloc (.cells (fieldsS (bareS n) nilV) 91) := ⟨_, rfl⟩
  have Hw1 := Lib.hid (show w1 = w.alloc (.cells #[.int .i64 (n : Int), .slice none 0 0, .slice none 0 0, .slice none 0 0, .slice none 0 0, .slice none 0 0, .slice none 0 0, .slice none 0 0, .slice none 0 0, .int .i64 16, .slice none 0 0, .slice none 0 0, .int .i64 0, .slice none 0 0, .slice none 0 0] 91) from hw1)
  rw [← hw1, ← hS] at h0
  rw [← hw1, ← hS] at hb0
  have HS := Lib.hid hS
  have H0 := Lib.hid h0
  have HB0 := Lib.hid hb0
  have HN := Lib.hid hN
  have HM := Lib.hid hM
  have HN1 := Lib.hid hN1
  rw [← hS]
  clear hS hw1 h0 hb0 hN hM hN1
  go_enter Try.func42, Try.ntmps42
  go_wp2
  rw [← HS.out, ← Hw1.out, HN1.out]
  go_cut [] (fun wx => ∃ vl1, Hid (SAt wx S S [] vl1 (st1 n) ∧ ∀ r, r ≠ .wt → r ≠ .va → vl1 r = .slice none 0 0) ∧ Hid (Below S w1 wx))
  case first =>
    have c3 := H0.out.cellS (k := 3) (v := .slice none 0 0) rfl
    have c4 := H0.out.cellS (k := 4) (v := .slice none 0 0) rfl
    have f3 := H0.out.frozenS
    have hSl := H0.out.lt
    go_region_held3 (fun _ => True) (trivial) (fail)
    all_goals clear c3 c4 f3 mkW mkB mkI mkC mkT hMw hM1
    all_goals obtain rfl := HN.out
    all_goals obtain rfl := HM.out
    all_goals go_wp2_with fail
    all_goals go_meet
    all_goals (case rel => first | with_reducible exact fin1a H0.out hn (Below.refl _ _) | with_reducible exact fin1b H0.out hn (Below.refl _ _))
  case rest =>
    obtain ⟨vl1, H1, HB1⟩ := hcut
    go_upto_region 4 with fail
    go_cut [] (fun wx => ∃ vl1, Hid (SAt wx S S [] vl1 (st2 n) ∧ ∀ r, r ≠ .wt → r ≠ .va → r ≠ .le → r ≠ .ac → vl1 r = .slice none 0 0) ∧ Hid (Below S w1 wx))
    case first =>
      have c5 := H1.out.1.cellS (k := 5) (v := .slice none 0 0) (by show some (vl1 .le) = _; rw [H1.out.2 _ (by simp) (by simp)])
      have c8 := H1.out.1.cellS (k := 8) (v := .slice none 0 0) (by show some (vl1 .ac) = _; rw [H1.out.2 _ (by simp) (by simp)])
      have f3 := H1.out.1.frozenS
      have hSl := H1.out.1.lt
      go_wp2_with fail
      go_region_held3 (fun _ => True) (trivial) (fail)
      all_goals clear c5 c8 f3 mkW mkB mkI mkC mkT hMw hM1
      all_goals obtain rfl := HN.out
      all_goals go_wp2_with fail
      all_goals go_meet
      all_goals (case rel => first | with_reducible exact fin2a H1.out.1 H1.out.2 hn HB1.out | with_reducible exact fin2b H1.out.1 H1.out.2 hn HB1.out)
    case rest =>
      obtain ⟨vl2, H2, HB2⟩ := hcut
      go_upto_region 5 with fail
      go_cut [] (fun wx => ∃ vl1, Hid (SAt wx S S [] vl1 (newS n)) ∧ Hid (Below S w1 wx))
      case first =>
        have c6 := H2.out.1.cellS (k := 6) (v := .slice none 0 0) (by show some (vl2 .re) = _; rw [H2.out.2 _ (by simp) (by simp) (by simp) (by simp)])
        have c7 := H2.out.1.cellS (k := 7) (v := .slice none 0 0) (by show some (vl2 .ph) = _; rw [H2.out.2 _ (by simp) (by simp) (by simp) (by simp)])
        have c14 := H2.out.1.cellS (k := 14) (v := .slice none 0 0) (by show some (vl2 .se) = _; rw [H2.out.2 _ (by simp) (by simp) (by simp) (by simp)])
        have f3 := H2.out.1.frozenS
        have hSl := H2.out.1.lt
        have hS1 : S < wc.heap.size + 1 := by omega
        have hS2 : S < wc.heap.size + 1 + 1 := by omega
        go_wp2_with fail
        go_region_held3 (fun _ => True) (trivial) (fail)
        all_goals clear c6 c7 c14 f3 mkW mkB mkI mkC mkT hMw hM1
        all_goals obtain rfl := HN.out
        all_goals go_wp2_with fail
        all_goals go_meet
        all_goals (case rel => first | with_reducible exact fin3a H2.out.1 hn HB2.out | with_reducible exact fin3b H2.out.1 hn HB2.out | with_reducible exact fin3c H2.out.1 hn HB2.out | with_reducible exact fin3d H2.out.1 hn HB2.out | with_reducible exact fin3e H2.out.1 hn HB2.out | with_reducible exact fin3f H2.out.1 hn HB2.out)
      case rest =>
        obtain ⟨vl3, H3, HB3⟩ := hcut
        go_wp2_with fail
        go_ret
        rw [HS.out] at H3 HB3 ⊢
        exact ⟨vl3, rfl, H3.out, (HS.out ▸ HB0.out).trans HB3.out⟩
end Go.Proofs.Ytcebafeaikipmaa.S15

namespace Go.Proofs.Ytcebafeaikipmaa.S15
open Go.RowKit

theorem undo_len (s : St) (x : Nat) : (undoS s x).value.length = s.value.length ∧ (undoS s x).reason.length = s.reason.length ∧ (undoS s x).phase.length = s.phase.length ∧ (undoS s x).trail = s.trail ∧ (undoS s x).ends = s.ends := by unfold undoS; simp
theorem undos_len (l : List Nat) : ∀ s : St, (l.foldl undoS s).value.length = s.value.length ∧ (l.foldl undoS s).reason.length = s.reason.length ∧ (l.foldl undoS s).phase.length = s.phase.length ∧ (l.foldl undoS s).trail = s.trail ∧ (l.foldl undoS s).ends = s.ends := by
  induction l with
  | nil => intro s; exact ⟨rfl, rfl, rfl, rfl, rfl⟩
  | cons x l ih =>
    intro s
    have h1 := undo_len s x
    have h2 := ih (undoS s x)
    exact ⟨h2.1.trans h1.1, h2.2.1.trans h1.2.1, h2.2.2.1.trans h1.2.2.1, h2.2.2.2.1.trans h1.2.2.2.1, h2.2.2.2.2.trans h1.2.2.2.2⟩
theorem foldl_take_succ' {α β : Type} (f : α → β → α) (a : α) (l : List β) (k : Nat) (h : k < l.length) : (l.take (k + 1)).foldl f a = f ((l.take k).foldl f a) l[k] := by
  rw [List.take_succ_eq_append_getElem h, List.foldl_append]
  rfl
set_option maxRecDepth 100000 in
set_option maxHeartbeats 8000000 in
theorem back_any {w : World} {B S : Nat} {ad : List Nat} {vl : Rl → Value} {s : St} (h : SAt w B S ad vl s) (hp : Shp s) (lv : Nat) (hlv : lv ≤ 100000) (hel : s.ends.length ≤ 100000) (htl : s.trail.length ≤ 100000) (hok : ∀ x ∈ s.trail, okL s.vars x) (hf : lv < s.ends.length → s.ends.getD lv 0 < s.trail.length) :
    Calls Try.prog 53 #[.pointer (some ⟨S, 0, none⟩), .int .i64 (lv : Int)] w fun e w' => e = .returned (.tuple #[]) ∧ ∃ vl', SAt w' B S ad vl' (backS s lv) ∧ Stp w B S ad vl w' ad vl' := by
  have HN := Lib.hid (now_any h)
  obtain ⟨R, hR⟩ : ∃ R, R = backS s lv := ⟨_, rfl⟩
  rw [← hR]
  unfold backS at hR
  rcases Nat.lt_or_ge lv s.ends.length with hlt | hge
  · rw [if_neg (by omega)] at hR
    have hft := hf hlt
    obtain ⟨f, hfe⟩ : ∃ f, f = s.ends.getD lv 0 := ⟨_, rfl⟩
    rw [← hfe] at hft hR
    obtain ⟨gt, ct, htr, -, hgt, hct, hct2⟩ := (h.rows .tr).form (by simp [cont]; omega)
    obtain ⟨ge, ce, hen, -, hge, hce, -⟩ := (h.rows .en).form (by simp [cont]; omega)
    simp only [cont, List.length_map] at htr hen hct hce
    have hct3 : ct ≤ 9223372036854775807 := by unfold maxLen at hct2; omega
    have c10 := h.cellS (k := 10) (v := vl .tr) rfl
    have c11 := h.cellS (k := 11) (v := vl .en) rfl
    rw [htr] at c10
    rw [hen] at c11
    have e11 := h.rows .en
    rw [hen] at e11
    have d11 : w.cell? ⟨ge, lv, none⟩ = some (.int .i64 (f : Int)) := e11.cell (by simp only [cont, List.getElem?_map, hfe, List.getD_eq_getElem?_getD]; rw [List.getElem?_eq_getElem hlt]; rfl)
    have H := Lib.hid h
    have HR := Lib.hid hR
    have Htr := Lib.hid htr
    have Hen := Lib.hid hen
    have Hok := Lib.hid hok
    have Hp := Lib.hid hp
    have hsm := hp.sm
    have zd : decide (s.ends.length ≤ lv) = false := decide_eq_false (by omega)
    clear h hR htr hen hok hp hct2 e11 hf hfe hgt hge
    go_enter Try.func53, Try.ntmps53
    go_wp2_with (go_at_call 51; with_reducible refine HN.out.mono ?_; rintro e w1 ⟨rfl, rfl⟩)
    clear c10 c11 d11 HN
    obtain ⟨D, hD⟩ : ∃ D, D = s.trail.drop f := ⟨_, rfl⟩
    have hDl : s.trail.length - f = D.length := by rw [hD]; simp
    have hDo : ∀ x ∈ D, okL s.vars x := fun x hx => Hok.out x (List.mem_of_mem_drop (hD ▸ hx))
    have hDt : ∀ k (h : k < D.length), s.trail[f + k]? = some D[k] := fun k h => by
      have e : D[k]? = some D[k] := List.getElem?_eq_getElem h
      rw [← e, hD, List.getElem?_drop]
    have HD := Lib.hid hD
    have HDo := Lib.hid hDo
    have HDt := Lib.hid hDt
    have HDl := Lib.hid hDl
    rw [hDl]
    have hDb : D.length ≤ 100000 := by omega
    clear hD hDl hDo hDt
    obtain ⟨gv, cv, hva, -, -, -, -⟩ := (H.out.rows .va).form (by simp [cont, Hp.out.va])
    obtain ⟨gp, cp, hph, -, -, -, -⟩ := (H.out.rows .ph).form (by simp [cont, Hp.out.ph])
    obtain ⟨gr, cr, hre, -, -, -, -⟩ := (H.out.rows .re).form (by simp [cont, Hp.out.re])
    simp only [cont, List.length_map, Hp.out.va, Hp.out.ph, Hp.out.re] at hva hph hre
    have nS1 : gv ≠ S := H.out.neS .va (by rw [hva]; rfl)
    have nS2 : gp ≠ S := H.out.neS .ph (by rw [hph]; rfl)
    have nS3 : gr ≠ S := H.out.neS .re (by rw [hre]; rfl)
    have Hva := Lib.hid hva
    have Hph := Lib.hid hph
    have Hre := Lib.hid hre
    clear hva hph hre
    obtain ⟨N, hN⟩ : ∃ N, N = s.vars + 1 := ⟨_, rfl⟩
    rw [← hN] at Hva Hph Hre
    obtain ⟨K, hK⟩ : ∃ K, K = 2 * N := ⟨_, rfl⟩
    rw [← hK] at Hva
    have HKe := Lib.hid hK
    have Hlt := Lib.hid hlt
    have HNe := Lib.hid hN
    have hN1 : N ≤ 2001 := by omega
    clear hN hK hlt
    go_loopw [26] (fun kv wr => ∃ k : Nat, k ≤ D.length ∧ kv = .int .i64 k ∧ Hid (SAt wr B S ad vl ((D.take k).foldl undoS s)) ∧ Hid (Stp w1 B S ad vl wr ad vl)) (fun kv _ => D.length - (intOf kv).toNat)
    case atStart => exact ⟨0, Nat.zero_le _, rfl, H, Lib.hid (Stp.refl _ _ _ _ _)⟩
    case round =>
      obtain ⟨k, hkle, rfl, HK, PK⟩ := hrel
      rcases Nat.lt_or_ge k D.length with hk | hk
      · have HT0 := Lib.hid (foldl_take_succ' undoS s D k hk)
        obtain ⟨T, hT⟩ : ∃ T, T = (D.take k).foldl undoS s := ⟨_, rfl⟩
        have hTl := undos_len (D.take k) s
        rw [← hT] at HK HT0 hTl
        obtain ⟨t1, t2, t3, t4, t5⟩ := hTl
        rw [Hp.out.va, ← HNe.out, ← HKe.out] at t1
        rw [Hp.out.re, ← HNe.out] at t2
        rw [Hp.out.ph, ← HNe.out] at t3
        obtain ⟨x, hx⟩ : ∃ x, x = D[k] := ⟨_, rfl⟩
        have hxo : okL s.vars x := by rw [hx]; exact HDo.out _ (List.getElem_mem hk)
        have hxt := HDt.out k hk
        rw [← hx] at HT0 hxt
        have hx1 : x < K := by rw [HKe.out, HNe.out]; exact hxo.2
        have hx2 : nt x < K := by rw [HKe.out, HNe.out]; exact (okL_nt hxo).2
        have hKN := HKe.out
        obtain ⟨v, hv⟩ : ∃ v, x / 2 = v := ⟨_, rfl⟩
        have hvN : v < N := by omega
        have hxb : x ≤ 100000 := by omega
        clear hKN
        have Hv := Lib.hid hv
        have e10 := HK.out.rows .tr
        rw [Htr.out] at e10
        have d10 : wr.cell? ⟨gt, f + k, none⟩ = some (.int .i64 (x : Int)) := e10.cell (by simp only [cont, List.getElem?_map, t4, hxt]; rfl)
        have c7 := HK.out.cellS (k := 7) (v := vl .ph) rfl
        rw [Hph.out] at c7
        have e7 := HK.out.rows .ph
        rw [Hph.out] at e7
        have d7 : wr.cell? ⟨gp, v, none⟩ = some (.bool (T.phase[v]'(by omega))) := e7.cell (by simp only [cont, List.getElem?_map]; rw [List.getElem?_eq_getElem (by omega)]; rfl)
        have f7 := e7.frozen
        have hbb : (bits .and .i64 (x : Int) 1 == 0) = (x % 2 == 0) := by
          rw [bits_and x (by omega), Bool.eq_iff_iff]; simp; omega
        have h1 := HK.out.setRow .ph Hph.out v (.bool (x % 2 == 0)) { T with phase := T.phase.set v (x % 2 == 0) } (fun r hr => by cases r <;> first | rfl | exact absurd rfl hr) (by simp [cont, List.map_set]) rfl rfl (fun _ _ => rfl)
        have H1 := Lib.hid h1
        have P1 := Lib.hid (PK.out.trans (HK.out.stpRow .ph Hph.out v (.bool (x % 2 == 0))))
        clear h1 hT hx e10 e7 hv t4 t5 hxt
        go_upto_region 7 with (go_at_call 61; with_reducible refine (variable_is Hv.out _ (by omega)).mono ?_; rintro e w2 ⟨rfl, rfl⟩)
        obtain ⟨w3, hw3⟩ : ∃ w3, w3 = w2.setCell ⟨gp, v, none⟩ (.bool (x % 2 == 0)) := ⟨_, rfl⟩
        rw [← hw3] at H1 P1 ⊢
        clear hw3 c7 d7 f7 hbb d10 HK PK
        have c4 := H1.out.cellS (k := 4) (v := vl .va) rfl
        rw [Hva.out] at c4
        have e4 := H1.out.rows .va
        rw [Hva.out] at e4
        have d1 : w3.cell? ⟨gv, x, none⟩ = some (.int .u8 (T.value[x]'(by omega) : Nat)) := e4.cell (by simp only [cont, List.getElem?_map]; rw [List.getElem?_eq_getElem (by omega)]; rfl)
        have d2 : w3.cell? ⟨gv, nt x, none⟩ = some (.int .u8 (T.value[nt x]'(by omega) : Nat)) := e4.cell (by simp only [cont, List.getElem?_map]; rw [List.getElem?_eq_getElem (by omega)]; rfl)
        have f1 := e4.frozen
        have hne := nt_ne x
        have hgv : gv < w3.heap.size := ((H1.out.rows .va).lt gv (by rw [Hva.out]; rfl)).2
        have h2 := H1.out.setRow .va Hva.out x (.int .u8 0) { T with phase := T.phase.set v (x % 2 == 0), value := T.value.set x 0 } (fun r hr => by cases r <;> first | rfl | exact absurd rfl hr) (by simp [cont, List.map_set]) rfl rfl (fun _ _ => rfl)
        have h3 := h2.setRow .va Hva.out (nt x) (.int .u8 0) { T with phase := T.phase.set v (x % 2 == 0), value := (T.value.set x 0).set (nt x) 0 } (fun r hr => by cases r <;> first | rfl | exact absurd rfl hr) (by simp [cont, List.map_set]) rfl rfl (fun _ _ => rfl)
        have H3 := Lib.hid h3
        have P3 := Lib.hid ((P1.out.trans (H1.out.stpRow .va Hva.out x (.int .u8 0))).trans (h2.stpRow .va Hva.out (nt x) (.int .u8 0)))
        clear h2 h3 e4 H1 P1
        go_region_held3 (fun w' => w'.cell? ⟨S, 4, none⟩ = some (.slice (some ⟨gv, 0, none⟩) K cv))
          (first | go_keep)
          (first | (go_at_call 60; with_reducible refine (not_any x _ (by omega)).mono ?_; rintro e w1 ⟨rfl, rfl⟩))
        clear c4 d1 d2 f1
        obtain ⟨w4, hw4⟩ : ∃ w4, w4 = ((w3.setCell ⟨gv, x, none⟩ (.int .u8 0)).setCell ⟨gv, nt x, none⟩ (.int .u8 0)).drew := ⟨_, rfl⟩
        rw [← hw4]
        have H4 := Lib.hid (show SAt w4 B S ad vl { T with phase := T.phase.set v (x % 2 == 0), value := (T.value.set x 0).set (nt x) 0 } by rw [hw4]; exact H3.out.new (Below.refl _ _).drew)
        have P4 := Lib.hid (show Stp w1 B S ad vl w4 ad vl by rw [hw4]; exact P3.out.trans (H3.out.stpNew (Below.refl _ _).drew))
        clear hw4 H3 P3
        have c6 := H4.out.cellS (k := 6) (v := vl .re) rfl
        rw [Hre.out] at c6
        have e6 := H4.out.rows .re
        rw [Hre.out] at e6
        have d6 : w4.cell? ⟨gr, v, none⟩ = some (oC ad (T.reason[v]'(by omega))) := e6.cell (by simp only [cont, List.getElem?_map]; rw [List.getElem?_eq_getElem (by omega)]; rfl)
        have f6 := e6.frozen
        have h5 := H4.out.setRow .re Hre.out v (.pointer none) (undoS T x) (fun r hr => by cases r <;> first | rfl | exact absurd rfl hr | (simp [cont, undoS, Hv.out]; done)) (by simp [cont, undoS, List.map_set, Hv.out, oC]) rfl rfl (fun _ _ => rfl)
        rw [← HT0.out] at h5
        have H5 := Lib.hid h5
        have P5 := Lib.hid (P4.out.trans (H4.out.stpRow .re Hre.out v (.pointer none)))
        clear h5 e6 H4 P4
        go_wp2
        go_roundw
        case rel => exact ⟨k + 1, by omega, by go_num, H5, P5⟩
        case measure => simp [intOf]; omega
      · obtain rfl : k = D.length := by omega
        rw [List.take_length] at HK
        have hTl := undos_len D s
        obtain ⟨T, hT⟩ : ∃ T, T = D.foldl undoS s := ⟨_, rfl⟩
        rw [← hT] at HK hTl
        have HT := Lib.hid hT
        obtain ⟨-, -, -, t4, t5⟩ := hTl
        have c10 := HK.out.cellS (k := 10) (v := vl .tr) rfl
        rw [Htr.out] at c10
        have c11 := HK.out.cellS (k := 11) (v := vl .en) rfl
        rw [Hen.out] at c11
        have c12 := HK.out.cellS (k := 12) (v := .int .i64 (T.done : Int)) rfl
        have fS := HK.out.frozenS
        clear hT
        have hlt := Hlt.out
        have e10 := HK.out.rows .tr
        rw [Htr.out] at e10
        have e11 := HK.out.rows .en
        rw [Hen.out] at e11
        have o10 : OwnG wr B 94 (.slice (some ⟨gt, 0, none⟩) f ct) (iN (T.trail.take f)) := by
          have := e10.take f ct (by simp [cont, t4]; omega) (Nat.le_refl _) (by omega)
          rw [show cont T ad vl .tr = iN T.trail from rfl, ← List.map_take] at this
          exact this
        have o11 : OwnG wr B 3 (.slice (some ⟨ge, 0, none⟩) lv ce) (iN (T.ends.take lv)) := by
          have := e11.take lv ce (by simp [cont, t5]; omega) (Nat.le_refl _) (by omega)
          rw [show cont T ad vl .en = iN T.ends from rfl, ← List.map_take] at this
          exact this
        have n10 : NewOr wr (vl .tr) (.slice (some ⟨gt, 0, none⟩) f ct) := fun g hg => .inl (by rw [Htr.out]; exact hg)
        have n11 : NewOr wr (vl .en) (.slice (some ⟨ge, 0, none⟩) lv ce) := fun g hg => .inl (by rw [Hen.out]; exact hg)
        obtain ⟨h1, -⟩ := HK.out.setSl .tr 10 (w5 := wr) { T with trail := T.trail.take f } o10 (Ch.refl _ _) n10 (fun r hr => by cases r <;> first | rfl | exact absurd rfl hr | (simp [cont, updV]; done)) rfl rfl (fun _ _ => rfl)
        have p1 := PK.out.trans (HK.out.stpSl .tr (w5 := wr) 10 (Ch.refl _ _) n10)
        have k11 : Kp wr (wr.setCell ⟨S, 10, none⟩ (.slice (some ⟨gt, 0, none⟩) f ct)) ge := kp_set _ _ _ _ (HK.out.neS .en (by rw [Hen.out]; rfl))
        obtain ⟨h2, -⟩ := h1.setSl .en 11 (w5 := wr.setCell ⟨S, 10, none⟩ (.slice (some ⟨gt, 0, none⟩) f ct)) { T with trail := T.trail.take f, ends := T.ends.take lv } (o11.kp fun g hg => by cases hg; exact k11) (Ch.refl _ _) (fun g hg => .inl (by rw [updV_ne _ _ (by simp), Hen.out]; exact hg)) (fun r hr => by cases r <;> first | rfl | exact absurd rfl hr | (simp [cont, updV]; done)) rfl rfl (fun _ _ => rfl)
        have p2 := p1.trans (h1.stpSl .en (w5 := wr.setCell ⟨S, 10, none⟩ (.slice (some ⟨gt, 0, none⟩) f ct)) 11 (v := .slice (some ⟨ge, 0, none⟩) lv ce) (Ch.refl _ _) (fun g hg => .inl (by rw [updV_ne _ _ (by simp), Hen.out]; exact hg)))
        have h3 := h2.setNum 12 (.int .i64 (f : Int)) { T with trail := T.trail.take f, ends := T.ends.take lv, done := f } (fun r => by cases r <;> rfl) rfl rfl (fun _ _ => rfl)
        have p3 := p2.trans (h2.stpNum 12 (.int .i64 (f : Int)))
        have H3 := Lib.hid (h3.new (Below.refl _ _).drew)
        have P3 := Lib.hid (p3.trans (h3.stpNew (Below.refl _ _).drew))
        have hRe : R = { T with trail := T.trail.take f, ends := T.ends.take lv, done := f } := by rw [t4, t5, HR.out, HT.out, HD.out]
        have HRe := Lib.hid hRe
        clear h1 h2 h3 p1 p2 p3 o10 o11 n10 n11 e10 e11 t4 t5 k11 hRe
        go_wp2
        go_region
        go_end0
        rw [HRe.out]
        exact ⟨rfl, _, H3.out, P3.out⟩
  · rw [if_pos hge] at hR
    have H := Lib.hid h
    have HR := Lib.hid hR
    clear h hR hok hp hf
    go_enter Try.func53, Try.ntmps53
    go_wp2_with (go_at_call 51; with_reducible refine HN.out.mono ?_; rintro e w1 ⟨rfl, rfl⟩)
    refine bodyPost_ret (results_none rfl _ _ _) rfl ?_
    rw [HR.out]
    exact ⟨rfl, vl, H.out, Stp.refl _ _ _ _ _⟩
end Go.Proofs.Ytcebafeaikipmaa.S15

namespace Go.Proofs.Ytcebafeaikipmaa.S15
open Go.RowKit

theorem truthsS_at {s : St} {k : Nat} (h : k < s.vars) : (truthsS s)[k]? = some (s.val (2 * (k + 1)) == 1) := by simp [truthsS, h]
/-- the first k of them, and as many as are left, unset -/
def truK (s : St) (k : Nat) : List Bool := (truthsS s).take k ++ List.replicate (s.vars - k) false
theorem truK_length {s : St} {k : Nat} (h : k ≤ s.vars) : (truK s k).length = s.vars := by unfold truK truthsS; simp; omega
theorem truK_set {s : St} {k : Nat} (h : k < s.vars) : (truK s k).set k (s.val (2 * (k + 1)) == 1) = truK s (k + 1) := by
  have hl : (truthsS s).length = s.vars := by simp [truthsS]
  have ht : ((truthsS s).take k).length = k := by simp [hl]; omega
  unfold truK
  rw [List.set_append_right _ _ (by omega), ht, Nat.sub_self, List.take_succ_eq_append_getElem (by omega), List.append_assoc]
  obtain ⟨m, hm⟩ : ∃ m, s.vars - k = m + 1 := ⟨s.vars - k - 1, by omega⟩
  rw [hm, show s.vars - (k + 1) = m by omega, List.replicate_succ, List.set_cons_zero]
  congr 2
  have := truthsS_at h
  rw [List.getElem?_eq_getElem (by omega)] at this
  simpa using this.symm
theorem ofI_nat (k : Nat) : ofI ((k : Nat) : Int) = 2 * k := by unfold ofI; rw [if_neg (by omega)]; omega
set_option maxRecDepth 100000 in
set_option maxHeartbeats 4000000 in
theorem truths_any {w : World} {B S : Nat} {ad : List Nat} {vl : Rl → Value} {s : St} (h : SAt w B S ad vl s) (hp : Shp s) :
    Calls Try.prog 57 #[.pointer (some ⟨S, 0, none⟩)] w fun e w' => ∃ v, e = .returned v ∧ OwnG w' w.heap.size 4 v ((truthsS s).map .bool) ∧ Below w.heap.size w w' := by
  have hsm := hp.sm
  have c0 := h.cellS (k := 0) (v := .int .i64 (s.vars : Int)) rfl
  have hmk := run_makeN (P := Try.prog) (t := 67) (e := 4) (bytes := 1) (z := .bool false) Try.underlying67 (by kernel_rfl) (by omega) rfl s.vars (by omega)
  obtain ⟨gv, cv, hva, -, -, -, -⟩ := (h.rows .va).form (by simp [cont, hp.va])
  simp only [cont, List.length_map, hp.va] at hva
  obtain ⟨K, hK⟩ : ∃ K, K = 2 * (s.vars + 1) := ⟨_, rfl⟩
  rw [← hK] at hva
  have hval : s.value.length = K := by rw [hp.va, hK]
  obtain ⟨n, hn⟩ : ∃ n, n = s.vars := ⟨_, rfl⟩
  obtain ⟨g, hg⟩ : ∃ g, g = w.heap.size := ⟨_, rfl⟩
  have hgv := ((h.rows .va).lt gv (by rw [hva]; rfl)).2
  have hSl := h.lt
  have HO := Lib.hid (show OwnG (w.alloc (.cells (madeCells #[.bool false] n) 4)) g 4 (.slice (some ⟨g, 0, none⟩) n n) ((truK s 0).map .bool) by
    have := OwnG.of_own (own_made w 4 (.bool false) n (by omega))
    rw [← hg] at this
    have e : (truK s 0).map Value.bool = List.replicate n (Value.bool false) := by unfold truK; rw [hn]; simp
    rw [e]; exact this)
  rw [← hn] at c0 hmk hsm hK
  have H := Lib.hid (h.new (below_alloc w (.cells (madeCells #[.bool false] n) 4)))
  have HB := Lib.hid (show Below g w (w.alloc (.cells (madeCells #[.bool false] n) 4)) by rw [hg]; exact below_alloc _ _)
  have Hnr := Lib.hid (show ∀ r, (vl r).ownBlock ≠ some g from fun r e => by have := ((h.rows r).lt g e).2; omega)
  have Hnc := Lib.hid (show ∀ c, c < s.cls.length → ad.getD c 0 ≠ g from fun c hc e => by have := (Array.getElem?_eq_some_iff.1 (h.cl c hc)).1; omega)
  have Hva := Lib.hid hva
  have Hn := Lib.hid hn
  have Hg := Lib.hid hg
  have Hval := Lib.hid hval
  have HK := Lib.hid hK
  rw [← hg] at hgv hSl ⊢
  clear h hp hva hn hval hK
  go_enter Try.func57, Try.ntmps57
  go_wp2
  clear c0 hmk
  rw [← hg]
  obtain ⟨w1, hw1⟩ : ∃ w1, w1 = w.alloc (.cells (madeCells #[.bool false] n) 4) := ⟨_, rfl⟩
  rw [← hw1] at HO H HB ⊢
  clear hw1 hg
  go_loopw [12] (fun kv wr => ∃ k : Nat, k ≤ n ∧ kv = .int .i64 k ∧ Hid (SAt wr B S ad vl s) ∧ Hid (OwnG wr g 4 (.slice (some ⟨g, 0, none⟩) n n) ((truK s k).map .bool)) ∧ Hid (Below g w wr)) (fun kv _ => n - (intOf kv).toNat)
  case atStart => exact ⟨0, Nat.zero_le _, rfl, H, HO, HB⟩
  case round =>
    obtain ⟨k, hkle, rfl, HS, HO2, HB2⟩ := hrel
    rcases Nat.lt_or_ge k n with hk | hk
    · obtain ⟨x, hx⟩ : ∃ x, x = 2 * (k + 1) := ⟨_, rfl⟩
      have hxK : x < K := by rw [HK.out, hx]; omega
      have c4 := HS.out.cellS (k := 4) (v := vl .va) rfl
      rw [Hva.out] at c4
      have e4 := HS.out.rows .va
      rw [Hva.out] at e4
      obtain ⟨y, hy⟩ : ∃ y, y = s.val x := ⟨_, rfl⟩
      have hye : s.value[x]? = some y := by rw [hy]; unfold St.val; rw [List.getD_eq_getElem?_getD, List.getElem?_eq_getElem (by rw [Hval.out]; exact hxK)]; rfl
      have d4 : wr.cell? ⟨gv, x, none⟩ = some (.int .u8 (y : Int)) := e4.cell (by simp only [cont, List.getElem?_map, hye]; rfl)
      have dg : wr.cell? ⟨g, k, none⟩ = some (.bool ((truK s k)[k]'(by rw [truK_length (by have := Hn.out; omega)]; have := Hn.out; omega))) := HO2.out.cell (by rw [List.getElem?_map, List.getElem?_eq_getElem (by rw [truK_length (by have := Hn.out; omega)]; have := Hn.out; omega)]; rfl)
      have fg := HO2.out.frozen
      have Hof := Lib.hid (show ∀ w, Calls Try.prog 58 #[.int .i64 ((k : Int) + 1)] w fun e w' => e = .returned (.int .i64 (x : Int)) ∧ w' = w from fun w => by have := of_any ((k + 1 : Nat) : Int) w (by omega); rw [ofI_nat, ← hx] at this; exact this)
      have nSg : g ≠ S := by omega
      have nvg : g ≠ gv := by omega
      have hb1 : (((y : Nat) : Int) == 1) = (y == 1) := by rw [Bool.eq_iff_iff]; simp; omega
      have Hy := Lib.hid (show (y == 1) = (s.val (2 * (k + 1)) == 1) by rw [hy, hx])
      have hglt : g < wr.heap.size := (HO2.out.lt g rfl).2
      have hwk : IntKind.i64.wrap ((k : Int) + 1) = ((k + 1 : Nat) : Int) := wrap_nat (by omega) (by omega)
      clear hx hy hye e4
      go_wp2_with fail
      go_region_held3 (fun w' => w'.cell? ⟨S, 4, none⟩ = some (.slice (some ⟨gv, 0, none⟩) K cv) ∧ w'.cell? ⟨gv, x, none⟩ = some (.int .u8 (y : Int)))
        (first | go_keep)
        (first | (go_at_call 58; with_reducible refine (Hof.out _).mono ?_; rintro e w1 ⟨rfl, rfl⟩))
      have H1 := Lib.hid (show SAt ((wr.setCell ⟨g, k, none⟩ (.bool (y == 1))).drew) B S ad vl s from (HS.out.kp (w' := wr.setCell ⟨g, k, none⟩ (.bool (y == 1))) (fun r b hb => kp_set _ _ _ _ fun e => Hnr.out r (e ▸ hb)) (kp_set _ _ _ _ (fun e => nSg e.symm)) (fun c hc => kp_set _ _ _ _ (Hnc.out c hc))).new (Below.refl _ _).drew)
      have HO3 := Lib.hid (show OwnG ((wr.setCell ⟨g, k, none⟩ (.bool (y == 1))).drew) g 4 (.slice (some ⟨g, 0, none⟩) n n) ((truK s (k + 1)).map .bool) by
        have := HO2.out.set k (.bool (y == 1))
        rw [← List.map_set, Hy.out, truK_set (by have := Hn.out; omega)] at this
        rw [Hy.out]
        exact this.kp fun _ _ => kp_new (Below.refl _ _).drew _)
      have HB3 := Lib.hid (show Below g w ((wr.setCell ⟨g, k, none⟩ (.bool (y == 1))).drew) from ((HB2.out.setCell (p := ⟨g, k, none⟩) (Nat.le_refl _) (.bool (y == 1)))).drew)
      clear c4 d4 dg fg hb1 hwk
      go_wp2
      go_roundw
      case rel => exact ⟨k + 1, by omega, by go_num, H1, HO3, HB3⟩
      case measure => simp [intOf]; omega
    · obtain rfl : k = n := by omega
      have e : truK s k = truthsS s := by
        unfold truK
        rw [Hn.out, Nat.sub_self, List.replicate_zero, List.append_nil, List.take_of_length_le (by simp [truthsS])]
      rw [e] at HO2
      go_wp2
      go_ret
      exact ⟨_, rfl, HO2.out, HB2.out⟩
end Go.Proofs.Ytcebafeaikipmaa.S15
