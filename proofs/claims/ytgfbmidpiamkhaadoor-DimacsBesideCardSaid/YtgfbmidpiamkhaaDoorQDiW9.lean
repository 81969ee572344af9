/- dimacs.first: the first line's numbers, where it is right. -/
import Derived.Test.YtgfbmidpiamkhaaDoorQDiW7
namespace Go.Proofs.YtgfbmidpiamkhaaDoor
open Go.RowKit
open C01 D28

set_option maxRecDepth 100000 in
set_option maxHeartbeats 4000000 in
theorem first_ok (w2 w3 : Bs) (vars count : Int) (n : Int) (v : Value) (w : World) (hv : WAt w v [[112], [99, 110, 102], w2, w3]) (h2 : parseL w2 = some vars) (h3 : parseL w3 = some count) (hn2 : 0 ≤ vars) (hn3 : 0 ≤ count) :
    Calls Tryd.prog 28 #[v, .int .i64 n] w fun e w' => e = .returned (.tuple #[.int .i64 vars, .int .i64 count]) ∧ Below w.heap.size w w' := by
  obtain ⟨g, cap, cur, rfl, hg, hcs⟩ := hv
  have c0 := (cell_of_row _ _ 0 _ _ _ hg).trans (hcs 0 (by simp))
  have c1 := (cell_of_row _ _ 1 _ _ _ hg).trans (hcs 1 (by simp))
  have c2 := (cell_of_row _ _ 2 _ _ _ hg).trans (hcs 2 (by simp))
  have c3 := (cell_of_row _ _ 3 _ _ _ hg).trans (hcs 3 (by simp))
  dsimp only [List.getElem_cons_zero, List.getElem_cons_succ] at c0 c1 c2 c3
  have hgl := (Array.getElem?_eq_some_iff.1 hg).1
  have HP2 := Lib.hid (fun w => (parse_any w2 n w).mono (R' := fun e w' => e = .returned (.int .i64 vars) ∧ Below w.heap.size w w') (fun e w' h => by unfold ParsePost at h; rw [h2] at h; exact h))
  have HP3 := Lib.hid (fun w => (parse_any w3 n w).mono (R' := fun e w' => e = .returned (.int .i64 count) ∧ Below w.heap.size w w') (fun e w' h => by unfold ParsePost at h; rw [h3] at h; exact h))
  have HC := Lib.hid (fun w' (hb : Below w.heap.size w w') => show w'.cell? ⟨g, 2, none⟩ = some (sv w2) ∧ w'.cell? ⟨g, 3, none⟩ = some (sv w3) from ⟨(hb.cell (p := ⟨g, 2, none⟩) hgl).trans c2, (hb.cell (p := ⟨g, 3, none⟩) hgl).trans c3⟩)
  have d2 : ¬ vars < 0 := by omega
  have d3 : ¬ count < 0 := by omega
  have e0 : ((bz [112]).toList == [112]) = true := by rw [bz_toList]; rfl
  have e1 : ((bz [99, 110, 102]).toList == [99, 110, 102]) = true := by rw [bz_toList]; rfl
  clear hcs hg h2 h3
  go_enter Tryd.func28, Tryd.ntmps28
  go_wp2
  refine wp_region_held_drew (S := (fun w' => w'.cell? ⟨g, 2, none⟩ = some (sv w2) ∧ w'.cell? ⟨g, 3, none⟩ = some (sv w3))) (by kernel_rfl) ⟨c2, c3⟩ (fun hHeld => ?_)
  refine wpAnyH_take (i := 0) (v := ?_) rfl (by kernel_rfl) (by kernel_rfl) (by kernel_rfl) (fun _ _ _ h => h) (Or.inl ⟨by rfl, ?_⟩) (by assumption) ?_
  rotate_left
  · intro w1 hSw
    (try dsimp only at hSw)
    go_simp
    (try with_reducible rfl)
  (try dsimp only [Act.put, List.setIfInBounds_toArray, List.set_cons_zero, List.set_cons_succ])
  refine wpAnyH_take (i := 1) (v := ?_) rfl (by kernel_rfl) (by kernel_rfl) (by kernel_rfl) (fun _ _ _ h => h) (Or.inl ⟨by rfl, ?_⟩) (by assumption) ?_
  rotate_left
  · intro w1 hSw
    (try dsimp only at hSw)
    go_simp
    (try with_reducible rfl)
  (try dsimp only [Act.put, List.setIfInBounds_toArray, List.set_cons_zero, List.set_cons_succ])
  refine wpAnyH_take (i := 2) (v := ?_) rfl (by kernel_rfl) (by kernel_rfl) (by kernel_rfl) (fun _ _ _ h => h) (Or.inl ⟨by rfl, ?_⟩) (by assumption) ?_
  rotate_left
  · intro w1 hSw
    (try dsimp only at hSw)
    go_simp
    (try with_reducible rfl)
  (try dsimp only [Act.put, List.setIfInBounds_toArray, List.set_cons_zero, List.set_cons_succ])
  refine wpAnyH_take (i := 3) (v := ?_) rfl (by kernel_rfl) (by kernel_rfl) (by kernel_rfl) (fun _ _ _ h => h) (Or.inl ⟨by rfl, ?_⟩) (by assumption) ?_
  rotate_left
  · intro w1 hSw
    (try dsimp only at hSw)
    go_simp
    (try with_reducible rfl)
  (try dsimp only [Act.put, List.setIfInBounds_toArray, List.set_cons_zero, List.set_cons_succ])
  refine wpAnyH_take (i := 5) (v := ?_) rfl (by kernel_rfl) (by kernel_rfl) (by kernel_rfl) (fun _ _ _ h => h) (Or.inl ⟨by rfl, ?_⟩) (by assumption) ?_
  rotate_left
  · intro w1 hSw
    (try dsimp only at hSw)
    go_simp
    (try with_reducible rfl)
  (try dsimp only [Act.put, List.setIfInBounds_toArray, List.set_cons_zero, List.set_cons_succ])
  refine wpAnyH_take (i := 6) (v := ?_) rfl (by kernel_rfl) (by kernel_rfl) (by kernel_rfl) (fun _ _ _ h => h) (Or.inl ⟨by rfl, ?_⟩) (by assumption) ?_
  rotate_left
  · intro w1 hSw
    (try dsimp only at hSw)
    go_simp
    (try with_reducible rfl)
  (try dsimp only [Act.put, List.setIfInBounds_toArray, List.set_cons_zero, List.set_cons_succ])
  refine wpAnyH_take (i := 7) (v := ?_) rfl (by kernel_rfl) (by kernel_rfl) (by kernel_rfl) (fun _ _ _ h => h) (Or.inl ⟨by rfl, ?_⟩) (by assumption) ?_
  rotate_left
  · intro w1 hSw
    (try dsimp only at hSw)
    go_simp
    (try with_reducible rfl)
  (try dsimp only [Act.put, List.setIfInBounds_toArray, List.set_cons_zero, List.set_cons_succ])
  refine wpAnyH_take (i := 8) (v := ?_) rfl (by kernel_rfl) (by kernel_rfl) (by kernel_rfl) (fun _ _ _ h => h) (Or.inl ⟨by rfl, ?_⟩) (by assumption) ?_
  rotate_left
  · intro w1 hSw
    (try dsimp only at hSw)
    go_simp
    (try with_reducible rfl)
  (try dsimp only [Act.put, List.setIfInBounds_toArray, List.set_cons_zero, List.set_cons_succ])
  refine wpAnyH_ready (rs := [4]) (by kernel_rfl) (by simp) ?_
  refine AllReadyH.cons rfl (fun K hK => ?_) AllReadyH.nil
  go_simp
  refine (HP2.out _).mono ?_
  rintro e w5 ⟨rfl, hb5⟩
  have HB5 := Lib.hid (Below.trans (Below.drew (Below.refl _ _)) hb5)
  refine hK.out _ _ (HC.out _ HB5.out) (fun hHeld => ?_)
  clear hK K
  (try dsimp only [Act.put, List.setIfInBounds_toArray, List.set_cons_zero, List.set_cons_succ])
  refine wpAnyH_ready (rs := [9]) (by kernel_rfl) (by simp) ?_
  refine AllReadyH.cons rfl (fun K hK => ?_) AllReadyH.nil
  go_simp
  refine (HP3.out _).mono ?_
  rintro e w6 ⟨rfl, hb6⟩
  have HB6 := Lib.hid (HB5.out.trans (hb6.mono HB5.out.size))
  refine hK.out _ _ (HC.out _ HB6.out) (fun hHeld => ?_)
  clear hK K
  (try dsimp only [Act.put, List.setIfInBounds_toArray, List.set_cons_zero, List.set_cons_succ])
  refine wpAnyH_take (i := 10) (v := ?_) rfl (by kernel_rfl) (by kernel_rfl) (by kernel_rfl) (fun _ _ _ h => h) (Or.inl ⟨by rfl, ?_⟩) (by assumption) ?_
  rotate_left
  · intro w1 hSw
    (try dsimp only at hSw)
    go_simp
    (try with_reducible rfl)
  (try dsimp only [Act.put, List.setIfInBounds_toArray, List.set_cons_zero, List.set_cons_succ])
  refine wpAnyH_take (i := 11) (v := ?_) rfl (by kernel_rfl) (by kernel_rfl) (by kernel_rfl) (fun _ _ _ h => h) (Or.inl ⟨by rfl, ?_⟩) (by assumption) ?_
  rotate_left
  · intro w1 hSw
    (try dsimp only at hSw)
    go_simp
    (try with_reducible rfl)
  (try dsimp only [Act.put, List.setIfInBounds_toArray, List.set_cons_zero, List.set_cons_succ])
  refine wpAnyH_done (by kernel_rfl) ?_ _
  go_wp2
  go_ret2
  exact ⟨rfl, HB6.out⟩
end Go.Proofs.YtgfbmidpiamkhaaDoor
