/- The law SatMore, walked. -/
import Derived.Test.YtdepdceaojenoaaQSaO1
import Derived.Test.YtdepdceaojenoaaZr
namespace Go.Proofs.Ytdepdceaojenoaa
open Go.RowKit

theorem own0 (w : World) : (w.alloc (.cells #[] 26)).ownsRow w.heap.size 26 1 (.slice (some ⟨w.heap.size, 0, none⟩) 0 0) ([] : List Value).length [] := World.ownsRow_lit (base := w.heap.size) (e := 26) (size := 1) w #[] 0 (Nat.le_refl _) (by unfold maxLen; omega) rfl
theorem cat_reads {W w6 : World} {M C : List (List Int)} {ysM ysC : List Value} {base P : Nat} {v6 : Value} (ho : w6.ownsRow base 26 1 v6 P (([] ++ ysM) ++ ysC)) (lM : ysM.length = M.length) (lC : ysC.length = C.length)
    (eM : ∀ j (hj : j < M.length) u, ysM[j]? = some u → RInts W (Lt W.heap.size) u M[j]) (eC : ∀ j (hj : j < C.length) u, ysC[j]? = some u → RInts W (Lt W.heap.size) u C[j]) (hP : P = (([] ++ ysM) ++ ysC : List Value).length) (hb : Below W.heap.size W w6) (hbase : W.heap.size + 2 ≤ base) (x : Value) :
    RIntss (w6.setCell ⟨W.heap.size + 1, 1, none⟩ x) (Lt w6.heap.size) v6 (M ++ C) := by
  have hst : ∀ u l, RInts W (Lt W.heap.size) u l → RInts w6 (fun b => b < w6.heap.size ∧ b ≠ W.heap.size + 1) u l := fun u l h =>
    RInts.stable _ _ _ _ _ _ h (ag_of_below hb) fun b (hb2 : b < _) => ⟨Nat.lt_of_lt_of_le hb2 hb.size, by omega⟩
  have h6 : RIntss w6 (fun b => b < w6.heap.size ∧ b ≠ W.heap.size + 1) v6 (M ++ C) := by
    refine reads_of_own ho (by rw [hP]; simp [lM, lC]) (fun g hg => ⟨(World.ownsRow.lt ho g hg).2, by have := (World.ownsRow.lt ho g hg).1; omega⟩) fun k hk u hu => ?_
    rw [List.nil_append] at hu
    rcases Nat.lt_or_ge k M.length with h | h
    · rw [List.getElem?_append_left (by omega)] at hu
      rw [List.getElem_append_left h]
      exact hst _ _ (eM k h u hu)
    · rw [List.getElem?_append_right (by omega), lM] at hu
      rw [List.getElem_append_right h]
      exact hst _ _ (eC _ (by simp at hk; omega) u hu)
  exact RIntss.stable _ _ _ _ _ _ h6 (fun b hb2 => Below.heap_setCell w6 ⟨W.heap.size + 1, 1, none⟩ x b hb2.2) fun b hb2 => hb2.1
set_option maxRecDepth 100000 in
set_option maxHeartbeats 8000000 in
theorem walk_SatMore (W : World) (v0 v1 : Value) (a0 : ArgB W 24 v0 1048576) (a1 : ArgB W 22 v1 1048576) :
    Calls Try.prog 6 #[v0, v1] W fun e W' => e = .returned (.bool true) ∧ Below W.heap.size W W' := by
  obtain ⟨v, s, C, rfl, h0, hC, hsn, hv1, hv2⟩ := arg_questionB a0
  obtain ⟨M, h1, hM, hmn⟩ := arg_rowsB a1
  obtain ⟨ysC, rC, lC, eC⟩ := rows_cells h0 hsn
  obtain ⟨ysM, rM, lM, eM⟩ := rows_cells h1 hmn
  obtain ⟨A, c, rfl, hlm, -⟩ := h0.open_
  obtain ⟨Am, cm, rfl, hlm2, -⟩ := h1.open_
  obtain ⟨N, hN⟩ : ∃ N, N = C.length := ⟨_, rfl⟩
  have HN := Lib.hid hN
  rw [← hN] at h0 rC ⊢
  obtain ⟨Nm, hNm⟩ : ∃ N, N = M.length := ⟨_, rfl⟩
  rw [← hNm] at h1 rM ⊢
  have H0 := Lib.hid h0
  have H1 := Lib.hid h1
  have RC := Lib.hid rC
  have RM := Lib.hid rM
  have LC := Lib.hid lC
  have LM := Lib.hid lM
  have EC := Lib.hid eC
  have EM := Lib.hid eM
  have HC := Lib.hid hC
  have HM := Lib.hid hM
  clear h0 h1 a0 a1 rC rM lC lM eC eM hC hM hsn hmn hN hNm hlm hlm2
  obtain ⟨B0, hB0⟩ : ∃ B0, B0 = W.heap.size := ⟨_, rfl⟩
  have HB0 := Lib.hid hB0
  obtain ⟨w1, hw1⟩ : ∃ w1, w1 = (W.alloc (.cells #[.int .i64 v, .slice A N c] 24)).alloc (.cells #[.int .i64 v, .slice A N c] 24) := ⟨_, rfl⟩
  have Hw1 := Lib.hid hw1
  have HB1 := Lib.hid (show Below B0 W w1 by rw [hw1, hB0]; exact (below_alloc _ _).alloc (by simp) _)
  have HX1 := Lib.hid (show w1.heap[B0]? = some (.cells #[.int .i64 v, .slice A N c] 24 (0, 0)) by rw [hw1, hB0]; exact heap_at_alloc (heap_new rfl))
  have HY1 := Lib.hid (show w1.heap[B0 + 1]? = some (.cells #[.int .i64 v, .slice A N c] 24 (0, 0)) by rw [hw1, hB0]; exact heap_new (by simp))
  have hs1 : w1.heap.size = B0 + 2 := by rw [hw1, hB0]; simp
  go_enter Try.func6, Try.ntmps6
  go_upto_region 2 with fail
  rw [← hB0, ← hw1]
  clear hw1 hB0
  have HBn := Lib.hid (below_alloc w1 (.cells #[] 26))
  have RMn := Lib.hid (RM.out.up (HB0.out ▸ HB1.out.trans (HBn.out.mono (by omega))))
  have q1 := cell_of_row _ _ 1 _ _ (0, 0) HX1.out
  obtain ⟨P, hP⟩ : ∃ P, P = (([] ++ ysM) ++ ysC : List Value).length := ⟨_, rfl⟩
  have HP := Lib.hid hP
  have Hs1 := Lib.hid hs1
  clear hP hs1
  have Hys := Lib.hid (show ysM.length ≤ 1048576 ∧ ysC.length ≤ 1048576 by rw [LM.out, LC.out]; exact ⟨HM.out, HC.out⟩)
  have T1 : RdL (w1.alloc (.cells #[] 26)) (.slice Am Nm cm) ysM := RMn.out
  have T3 : ([] : List Value).length + ysM.length < 1000000000000 := (by have := Hys.out.1; simp; omega)
  have T4 : w1.heap.size ≤ (w1.alloc (.cells #[] 26)).heap.size := (by simp)
  have T5 : ([] ++ ysM : List Value).length + ysC.length < 1000000000000 := (by have := Hys.out; simp; omega)
  have F5 := Lib.hid (fun (w5 : World) (h : (w1.alloc (.cells #[] 26)).drew.grownBy w5 (Value.slice (some ⟨w1.heap.size, 0, none⟩) 0 0).ownBlock) => show Below w1.heap.size w1 w5 ∧ RdL w5 (.slice A N c) ysC ∧ w5.cell? ⟨B0, 1, none⟩ = some (.slice A N c) from by
    have hb := (below_alloc w1 (.cells #[] 26)).drew.grown h (by simp) (fun g hg => (World.ownsRow.lt (own0 w1) g hg).1)
    exact ⟨hb, RC.out.up (HB0.out ▸ HB1.out.trans (hb.mono (by rw [Hs1.out]; omega))), cell_of_row _ _ 1 _ _ (0, 0) ((hb.block B0 (by rw [Hs1.out]; omega)).trans HX1.out)⟩)
  have F6 := Lib.hid (fun (v5 v6 : Value) (w5 w6 : World) (h5 : Below w1.heap.size w1 w5) (ho : w5.ownsRow w1.heap.size 26 1 v5 ([] ++ ysM : List Value).length ([] ++ ysM)) (h6 : w6.ownsRow w1.heap.size 26 1 v6 (([] ++ ysM) ++ ysC : List Value).length (([] ++ ysM) ++ ysC)) (hg : w5.grownBy w6 v5.ownBlock) =>
    show ∃ A6 c6, v6 = .slice A6 P c6 ∧ w6.ownsRow w1.heap.size 26 1 (.slice A6 P c6) P (([] ++ ysM) ++ ysC) ∧ Below w1.heap.size w1 w6 ∧ w6.heap[B0 + 1]? = some (.cells #[.int .i64 v, .slice A N c] 24 (0, 0)) from by
    have hb := h5.grown hg h5.size (fun g hg => (World.ownsRow.lt ho g hg).1)
    obtain ⟨A6, c6, hv6⟩ := own_shape h6
    rw [← HP.out] at hv6 h6
    exact ⟨A6, c6, hv6, hv6 ▸ h6, hb, (hb.block (B0 + 1) (by rw [Hs1.out]; omega)).trans HY1.out⟩)
  have F6d := Lib.hid (fun (v5 v6 : Value) (w5 w6 : World) (h5 : Below w1.heap.size w1 w5) (ho : w5.ownsRow w1.heap.size 26 1 v5 ([] ++ ysM : List Value).length ([] ++ ysM)) (h6 : w6.ownsRow w1.heap.size 26 1 v6 (([] ++ ysM) ++ ysC : List Value).length (([] ++ ysM) ++ ysC)) (hg : w5.drew.grownBy w6 v5.ownBlock) =>
    show ∃ A6 c6, v6 = .slice A6 P c6 ∧ w6.ownsRow w1.heap.size 26 1 (.slice A6 P c6) P (([] ++ ysM) ++ ysC) ∧ Below w1.heap.size w1 w6 ∧ w6.heap[B0 + 1]? = some (.cells #[.int .i64 v, .slice A N c] 24 (0, 0)) from by
    have hb := h5.drew.grown hg h5.size (fun g hg => (World.ownsRow.lt ho g hg).1)
    obtain ⟨A6, c6, hv6⟩ := own_shape h6
    rw [← HP.out] at hv6 h6
    exact ⟨A6, c6, hv6, hv6 ▸ h6, hb, (hb.block (B0 + 1) (by rw [Hs1.out]; omega)).trans HY1.out⟩)
  have q2 : (w1.alloc (.cells #[] 26)).drew.cell? ⟨B0, 1, none⟩ = some (.slice A N c) := cell_of_row _ _ 1 _ _ (0, 0) (heap_at_alloc HX1.out)
  have q3 : w1.drew.cell? ⟨B0, 1, none⟩ = some (.slice A N c) := q1
  have q4 : (w1.alloc (.cells #[] 26)).cell? ⟨B0, 1, none⟩ = some (.slice A N c) := q2
  go_cut [] (fun wx => ∃ A6 c6, Hid (Below B0 W wx) ∧ Hid (wx.heap[B0]? = some (.cells #[.int .i64 v, .slice A N c] 24 (0, 0))) ∧ Hid (wx.heap[B0 + 1]? = some (.cells #[.int .i64 v, .slice A6 P c6] 24 (0, 0))) ∧ Hid (RIntss wx (Lt wx.heap.size) (.slice A6 P c6) (M ++ C)))
  case first =>
   go_region_law (first
    | (refine step_appL rfl _ _ rfl (v := .slice (some ⟨w1.heap.size, 0, none⟩) 0 0) rfl (own0 w1) (x' := .slice Am Nm cm) rfl (ys := ysM) T1 T3 T4 ?_
       intro v5 w5 hown5 hg5 hat5
       obtain ⟨hb5, rc5, x5⟩ := F5.out w5 hg5
       have HO5 := Lib.hid hown5
       have HB5 := Lib.hid hb5
       have RC5 := Lib.hid rc5
       have bs5 := hb5.size
       clear hown5 hg5 hat5 hb5 rc5)
    | (refine step_appL rfl _ _ rfl (v := v5) rfl HO5.out (x' := .slice A N c) rfl (ys := ysC) RC5.out T5 bs5 ?_
       intro v6 w6 hown6 hg6 hat6
       first
         | obtain ⟨A6, c6, hv6, ho6, hb6, y6⟩ := F6.out v5 v6 w5 w6 HB5.out HO5.out hown6 hg6
         | obtain ⟨A6, c6, hv6, ho6, hb6, y6⟩ := F6d.out v5 v6 w5 w6 HB5.out HO5.out hown6 hg6
       subst hv6
       have HO6 := Lib.hid ho6
       have HB6 := Lib.hid hb6
       have x6 := cell_of_row _ _ 1 _ _ (0, 0) y6
       have f6 := frozen_of_row _ _ 1 _ _ y6
       have HY6 := Lib.hid y6
       clear hown6 hg6 hat6 ho6 hb6 y6))
   all_goals (go_wp2_with fail; go_meet)
   all_goals exact ⟨A6, c6, Lib.hid ((HB1.out.trans (HB6.out.mono (by rw [Hs1.out]; omega))).setCell (p := ⟨B0 + 1, 1, none⟩) (by show B0 ≤ B0 + 1; omega) _), Lib.hid ((Below.heap_setCell w6 ⟨B0 + 1, 1, none⟩ _ B0 (by show B0 ≠ B0 + 1; omega)).trans ((HB6.out.block B0 (by rw [Hs1.out]; omega)).trans HX1.out)), Lib.hid (heap_setCell_same w6 _ 1 _ _ _ HY6.out), Lib.hid (by
     have h := cat_reads HO6.out LM.out LC.out EM.out EC.out HP.out (HB0.out ▸ HB1.out.trans (HB6.out.mono (by rw [Hs1.out]; omega))) (by rw [← HB0.out, Hs1.out]; omega) (.slice A6 P c6)
     rw [← HB0.out] at h
     simpa using h)⟩
  case rest =>
  obtain ⟨A6, c6, HBc, HXc, HYc, HRc⟩ := hcut
  obtain ⟨D, hD⟩ : ∃ D, D = M ++ C := ⟨_, rfl⟩
  have HD := Lib.hid hD
  rw [← hD] at HRc
  have hsc : B0 + 1 < wc.heap.size := heap_lt HYc.out
  have HKw := Lib.hid (fun (W2 : World) (h : Below wc.heap.size wc W2) => show ((W2.cell? ⟨B0, 0, none⟩ = some (.int .i64 v) ∧ W2.cell? ⟨B0, 1, none⟩ = some (.slice A N c)) ∧ W2.cell? ⟨B0 + 1, 0, none⟩ = some (.int .i64 v) ∧ W2.cell? ⟨B0 + 1, 1, none⟩ = some (.slice A6 P c6)) ∧ RIntss W2 (Lt W2.heap.size) (.slice A N c) C ∧ RIntss W2 (Lt W2.heap.size) (.slice A6 P c6) D from
    ⟨⟨⟨cell_of_row _ _ 0 _ _ (0, 0) ((h.block _ (by omega)).trans HXc.out), cell_of_row _ _ 1 _ _ (0, 0) ((h.block _ (by omega)).trans HXc.out)⟩, cell_of_row _ _ 0 _ _ (0, 0) ((h.block _ hsc).trans HYc.out), cell_of_row _ _ 1 _ _ (0, 0) ((h.block _ hsc).trans HYc.out)⟩,
      RIntss.stable.up (RIntss.stable.up H0.out (HB0.out ▸ HBc.out)) h, RIntss.stable.up HRc.out h⟩)
  have HLv := Lib.hid (fun (w2 : World) (h : Below wc.heap.size wc w2) => show Calls Try.prog 9 #[] w2 fun e w' => e = .returned (.bool true) ∧ Below B0 W w' from
    (lives_any w2).mono fun e w' ⟨h1, h2⟩ => ⟨h1, HBc.out.trans ((h.trans (h2.mono h.size)).mono (by omega))⟩)
  have HLq := Lib.hid (light_any v (.slice A N c) C wc (HKw.out wc (Below.refl _ _)).2.1)
  have HLp := Lib.hid (fun (w2 : World) (h : Below wc.heap.size wc w2) => light_any v (.slice A6 P c6) D w2 (HKw.out w2 h).2.2)
  obtain ⟨⟨⟨k0, k1⟩, k2, k3⟩, -⟩ := HKw.out wc (Below.refl _ _)
  clear hD HBn RMn T1 T3 T4 T5 F5 F6 F6d q1 q2 q3 q4 HX1 HY1 Hw1 RC RM EC EM LC LM Hys HP Hs1 H1 HB1
  cases hlq : lightQ v C with
  | false =>
    rw [hlq] at HLq
    clear hlq
    go_wp2_with (first
      | (go_at_call 13; with_reducible refine HLq.out.mono ?_; rintro e w2 ⟨rfl, b2⟩; go_loud (have HB2 := Lib.hid b2; clear b2))
      | (go_at_call 9; with_reducible refine (HLv.out _ HB2.out).mono ?_; rintro e w5 ⟨rfl, hb5⟩))
    go_ret
    exact ⟨rfl, HB0.out ▸ hb5⟩
  | true =>
  rw [hlq] at HLq
  clear hlq
  cases hlp : lightQ v D with
  | false =>
    rw [hlp] at HLp
    clear hlp
    go_wp2_with (first
      | (go_at_call 13; with_reducible refine HLq.out.mono ?_; rintro e w2 ⟨rfl, b2⟩; go_loud (have HB2 := Lib.hid b2; clear k0 k1 k2 k3; obtain ⟨⟨⟨k0, k1⟩, k2, k3⟩, -⟩ := HKw.out w2 b2; clear b2))
      | (go_at_call 13; with_reducible refine (HLp.out _ HB2.out).mono ?_; rintro e w3 ⟨rfl, b3⟩; go_loud (have HB3 := Lib.hid (HB2.out.trans (b3.mono HB2.out.size)); clear b3))
      | (go_at_call 9; with_reducible refine (HLv.out _ HB3.out).mono ?_; rintro e w5 ⟨rfl, hb5⟩))
    go_ret
    exact ⟨rfl, HB0.out ▸ hb5⟩
  | true =>
  rw [hlp] at HLp
  clear hlp
  by_cases hv10 : 10 < v
  · go_wp2_with (first
      | (go_at_call 13; with_reducible refine HLq.out.mono ?_; rintro e w2 ⟨rfl, b2⟩; go_loud (have HB2 := Lib.hid b2; clear k0 k1 k2 k3; obtain ⟨⟨⟨k0, k1⟩, k2, k3⟩, -⟩ := HKw.out w2 b2; clear b2))
      | (go_at_call 13; with_reducible refine (HLp.out _ HB2.out).mono ?_; rintro e w3 ⟨rfl, b3⟩; go_loud (have HB3 := Lib.hid (HB2.out.trans (b3.mono HB2.out.size)); clear k0 k1 k2 k3; obtain ⟨⟨⟨k0, k1⟩, k2, k3⟩, -⟩ := HKw.out w3 (HB2.out.trans (b3.mono HB2.out.size)); clear b3))
      | (go_at_call 9; with_reducible refine (HLv.out _ HB3.out).mono ?_; rintro e w5 ⟨rfl, hb5⟩))
    go_ret
    exact ⟨rfl, HB0.out ▸ hb5⟩
  obtain ⟨E, hE⟩ : ∃ E, E = satMayN v D := ⟨_, rfl⟩
  have HE := Lib.hid hE
  have HM3 := Lib.hid (fun (w2 : World) (h : Below wc.heap.size wc w2) => show Calls Try.prog 10 #[.agg #[.int .i64 v, .slice A6 P c6]] w2 fun e w' => e = .returned (.int .i64 (E : Nat)) ∧ Below w2.heap.size w2 w' by
    have := refSatMay_any v (.slice A6 P c6) D w2 (HKw.out w2 h).2.2
    rw [← HE.out] at this
    exact this)
  by_cases hE0 : E = 0
  case neg =>
    have hz : (((E : Nat) : Int) != 0) = true := bne_iff_ne.2 (by omega)
    clear hE hE0
    go_wp2_with (first
      | (go_at_call 13; with_reducible refine HLq.out.mono ?_; rintro e w2 ⟨rfl, b2⟩; go_loud (have HB2 := Lib.hid b2; clear k0 k1 k2 k3; obtain ⟨⟨⟨k0, k1⟩, k2, k3⟩, -⟩ := HKw.out w2 b2; clear b2))
      | (go_at_call 13; with_reducible refine (HLp.out _ HB2.out).mono ?_; rintro e w3 ⟨rfl, b3⟩; go_loud (have HB3 := Lib.hid (HB2.out.trans (b3.mono HB2.out.size)); clear k0 k1 k2 k3; obtain ⟨⟨⟨k0, k1⟩, k2, k3⟩, -⟩ := HKw.out w3 (HB2.out.trans (b3.mono HB2.out.size)); clear b3))
      | (go_at_call 10; with_reducible refine (HM3.out _ HB3.out).mono ?_; rintro e w4 ⟨rfl, b4⟩; go_loud (have HB4 := Lib.hid (HB3.out.trans (b4.mono HB3.out.size)); clear b4))
      | (go_at_call 9; with_reducible refine (HLv.out _ HB4.out).mono ?_; rintro e w5 ⟨rfl, hb5⟩))
    go_ret
    exact ⟨rfl, HB0.out ▸ hb5⟩
  case pos =>
    have hE1 : satMayN v D = 0 := by rw [← hE]; exact hE0
    have hz : (((E : Nat) : Int) != 0) = false := by rw [hE0]; rfl
    have hvn := may_nonneg hE1
    obtain ⟨n, rfl⟩ : ∃ n : Nat, v = n := ⟨v.toNat, by omega⟩
    have HE1 := Lib.hid hE1
    have HE2 := Lib.hid (show satMayN (n : Int) C = 0 from may_sub (by rw [← HD.out]; exact hE1))
    clear hE hE0 hE1
    go_upto_region 5 with (first
      | (go_at_call 13; with_reducible refine HLq.out.mono ?_; rintro e w2 ⟨rfl, b2⟩; go_loud (have HB2 := Lib.hid b2; clear k0 k1 k2 k3; obtain ⟨⟨⟨k0, k1⟩, k2, k3⟩, -⟩ := HKw.out w2 b2; clear b2))
      | (go_at_call 13; with_reducible refine (HLp.out _ HB2.out).mono ?_; rintro e w3 ⟨rfl, b3⟩; go_loud (have HB3 := Lib.hid (HB2.out.trans (b3.mono HB2.out.size)); clear k0 k1 k2 k3; obtain ⟨⟨⟨k0, k1⟩, k2, k3⟩, -⟩ := HKw.out w3 (HB2.out.trans (b3.mono HB2.out.size)); clear b3))
      | (go_at_call 10; with_reducible refine (HM3.out _ HB3.out).mono ?_; rintro e w4 ⟨rfl, b4⟩; go_loud (have HB4 := Lib.hid (HB3.out.trans (b4.mono HB3.out.size)); clear k0 k1 k2 k3; obtain ⟨⟨⟨k0, k1⟩, k2, k3⟩, -⟩ := HKw.out w4 (HB3.out.trans (b4.mono HB3.out.size)); clear b4)))
    have HS4 := Lib.hid (show Calls Try.prog 12 #[.agg #[.int .i64 (n : Int), .slice A N c], .int .i64 1048576] w4 _ from solve_law (HKw.out w4 HB4.out).2.1 HE2.out (most := 1048576) (by omega) (fun _ B S => forget_any B S))
    go_upto_region 6 with (go_at_call 12; with_reducible refine HS4.out.mono ?_; rintro e w5 ⟨a, ev, kv, A1, A2, n1, c1, n2, c2, rfl, ha, b5⟩; go_loud (have HA5 := Lib.hid ha; have HB5 := Lib.hid b5; clear b5 ha))
    obtain ⟨X5, hX5⟩ : ∃ X, X = Obj.cells #[.int .i64 ev, .slice A1 n1 c1, .slice A2 n2 c2, .int .i64 kv] 33 := ⟨_, rfl⟩
    obtain ⟨w6, hw6⟩ : ∃ w6, w6 = w5.alloc X5 := ⟨_, rfl⟩
    have Hb6 := Lib.hid (show Below w5.heap.size w5 w6 by rw [hw6]; exact below_alloc _ _)
    have HX6 := Lib.hid (show w6.heap[w5.heap.size]? = some (.cells #[.int .i64 ev, .slice A1 n1 c1, .slice A2 n2 c2, .int .i64 kv] 33 (0, 0)) by rw [hw6, hX5]; exact heap_alloc_new _ _)
    have hs6 : w6.heap.size = w5.heap.size + 1 := by rw [hw6]; simp
    rw [← hX5, ← hw6]
    clear hw6 hX5 HS4 k0 k1 k2 k3
    have HB6 := Lib.hid (HB4.out.trans ((HB5.out.trans (Hb6.out.mono HB5.out.size)).mono HB4.out.size))
    obtain ⟨⟨⟨k0, k1⟩, k2, k3⟩, -⟩ := HKw.out w6 HB6.out
    have HS6 := Lib.hid (show Calls Try.prog 12 #[.agg #[.int .i64 (n : Int), .slice A6 P c6], .int .i64 1048576] w6 _ from solve_law (HKw.out w6 HB6.out).2.2 HE1.out (most := 1048576) (by omega) (fun _ B S => forget_any B S))
    go_upto_region 7 with (go_at_call 12; with_reducible refine HS6.out.mono ?_; rintro e w7 ⟨b, ev2, kv2, A3, A4, n3, c3, n4, c4, rfl, hb, b7⟩; go_loud (have HA7 := Lib.hid hb; have Hb7 := Lib.hid b7; clear b7 hb))
    obtain ⟨X7, hX7⟩ : ∃ X, X = Obj.cells #[.int .i64 ev2, .slice A3 n3 c3, .slice A4 n4 c4, .int .i64 kv2] 33 := ⟨_, rfl⟩
    obtain ⟨w8, hw8⟩ : ∃ w8, w8 = w7.alloc X7 := ⟨_, rfl⟩
    have Hb8 := Lib.hid (show Below w7.heap.size w7 w8 by rw [hw8]; exact below_alloc _ _)
    have HX8 := Lib.hid (show w8.heap[w7.heap.size]? = some (.cells #[.int .i64 ev2, .slice A3 n3 c3, .slice A4 n4 c4, .int .i64 kv2] 33 (0, 0)) by rw [hw8, hX7]; exact heap_alloc_new _ _)
    have hs8 : w8.heap.size = w7.heap.size + 1 := by rw [hw8]; simp
    rw [← hX7, ← hw8]
    clear hw8 hX7 HS6 k0 k1 k2 k3
    have h68 : Below w6.heap.size w6 w8 := Hb7.out.trans (Hb8.out.mono Hb7.out.size)
    have h18 : Below wc.heap.size wc w8 := HB6.out.trans (h68.mono HB6.out.size)
    have HB8 := Lib.hid h18
    obtain ⟨⟨⟨k0, k1⟩, k2, k3⟩, -⟩ := HKw.out w8 h18
    have y5 := (h68.block w5.heap.size (by omega)).trans HX6.out
    have y8 := HX8.out
    have mf := may_facts HE1.out
    have mf2 := may_facts HE2.out
    have hnoa := HA5.out.sr.not_opn mf2.2.2.2 (by omega) mf2.2.1 (by omega)
    have hnob := HA7.out.sr.not_opn mf.2.2.2 (by omega) mf.2.1 (by omega)
    have hsma := ans_some mf2.2.2.2 HA5.out.ok HA5.out.pb hnoa
    have hsmb := ans_some mf.2.2.2 HA7.out.ok HA7.out.pb hnob
    obtain ⟨-, -, -, -, -, ga⟩ := HA5.out.nums
    obtain ⟨-, -, -, -, gb1, gb2⟩ := HA7.out.nums
    obtain ⟨d5, hd5⟩ : ∃ d, d = w5.heap.size := ⟨_, rfl⟩
    obtain ⟨d7, hd7⟩ : ∃ d, d = w7.heap.size := ⟨_, rfl⟩
    rw [← hd5] at y5 ⊢
    rw [← hd7] at y8 ⊢
    have HY5 := Lib.hid y5
    have HY8 := Lib.hid y8
    have x50 := cell_of_row _ _ 0 _ _ (0, 0) y5
    have x80 := cell_of_row _ _ 0 _ _ (0, 0) y8
    have x81 := cell_of_row _ _ 1 _ _ (0, 0) y8
    cases b with
    | opn k => exact (hnob k rfl).elim
    | unsat q k =>
      have z2 : (ev2 == 2) = true := gb2
      have z3 : (ev2 != 1) = true := by unfold bne; rw [gb1]; rfl
      obtain ⟨xa, hxa⟩ : ∃ xa, xa = (ev != 2) := ⟨_, rfl⟩
      have z1 : (ev != 2) = xa := hxa.symm
      clear ga gb1 gb2 hxa mf mf2 hnoa hnob hsma hsmb h68 h18 y5 y8 hd5 hd7 HA5 HA7
      cases xa with
      | true =>
        go_wp2_with (go_at_call 9; with_reducible refine (HLv.out _ HB8.out).mono ?_; rintro e w9 ⟨rfl, hb9⟩)
        go_ret
        exact ⟨rfl, HB0.out ▸ hb9⟩
      | false =>
        go_wp2_with (go_at_call 9; with_reducible refine (HLv.out _ HB8.out).mono ?_; rintro e w9 ⟨rfl, hb9⟩)
        go_ret
        exact ⟨rfl, HB0.out ▸ hb9⟩
    | sat tr k =>
      have z3 : (ev2 != 1) = false := by unfold bne; rw [gb1]; rfl
      have z1 : (ev != 2) = true := by
        cases a with
        | opn k => exact (hnoa k rfl).elim
        | sat t k => unfold bne; rw [ga]; rfl
        | unsat p k =>
          have h1 : someN C n = false := hsma
          have h2 : someN D n = true := hsmb
          rw [HD.out, some_sub h1] at h2
          cases h2
      obtain ⟨pv, e1, rb⟩ := HA7.out.rd
      injection e1 with e1
      simp only [Array.mk.injEq, List.cons.injEq, Value.int.injEq, Value.slice.injEq, true_and, and_true] at e1
      obtain ⟨-, e2, -, -⟩ := e1
      subst e2
      have hho : holdsI C tr = -1 := holds_of (fun K hK m hm => (mf2.2.2.2 K hK m hm).1) fun K hK => HA7.out.ok.2.2 K (by rw [HD.out]; exact List.mem_append_right _ hK)
      have HH := Lib.hid (show Calls Try.prog 16 #[.slice A N c, .slice A3 n3 c3] w8 fun e w' => e = .returned (.int .i64 (-1)) ∧ w8 = w' by
        have := Holds_any (.slice A N c) (.slice A3 n3 c3) C tr w8 (HKw.out w8 h18).2.1 (RBools.stable _ _ _ _ _ _ rb ((ag_of_below Hb8.out).sub fun b hb => hb.2) fun b hb => (by have := hb.2; show b < _; omega : Lt w8.heap.size b))
        rw [hho] at this
        exact this)
      clear ga gb1 gb2 mf mf2 hnoa hnob hsma hsmb h68 h18 y5 y8 hd5 hd7 HA5 HA7 rb hho
      go_wp2_with (first
        | (go_at_call 16; with_reducible refine HH.out.mono ?_; rintro e w9 ⟨rfl, rfl⟩)
        | (go_at_call 9; with_reducible refine (HLv.out _ HB8.out).mono ?_; rintro e w9 ⟨rfl, hb9⟩))
      go_ret
      exact ⟨rfl, HB0.out ▸ hb9⟩
end Go.Proofs.Ytdepdceaojenoaa
