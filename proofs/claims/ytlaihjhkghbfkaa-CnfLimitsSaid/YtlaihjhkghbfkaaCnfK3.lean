/- The law CnfTakes, walked. -/
import Derived.Test.YtlaihjhkghbfkaaCnfK2
import Derived.Deep.RegionHeld3
namespace Go.Proofs.Ytlaihjhkghbfkaa
open Go.RowKit Go.Sort

theorem fit2 {P : Program} {f : FuncId} {a v0 : Value} {w : World} {post : Ending → World → Prop} (h : Calls P f #[a, v0] w post) : ∀ v, v = v0 → Calls P f #[a, v] w post := by rintro _ rfl; exact h

set_option maxRecDepth 100000 in
set_option maxHeartbeats 2000000 in
theorem walk_CnfTakes (W : World) (v0 v1 v2 : Value) (a0 : Arg Try.prog W 25 v0) (a1 : Arg Try.prog W 40 v1) (a2 : Arg Try.prog W 39 v2) :
    Calls Try.prog 5 #[v0, v1, v2] W fun e W' => e = .returned (.bool true) ∧ Below W.heap.size W W' := by
  obtain ⟨s0, s1, r, items, wss, rfl, h0, h1, hr1, hr2⟩ := arg_deal a0
  obtain ⟨ts, h2⟩ := arg_slice a1 Try.underlying40 reads1_bools
  obtain ⟨gs, h3⟩ := arg_slice a2 Try.underlying39 reads1_ints
  have H0 := Lib.hid h0; have H1 := Lib.hid h1; have H2 := Lib.hid h2; have H3 := Lib.hid h3
  obtain ⟨A0, c0, rfl⟩ := h0.shape
  obtain ⟨A1, c1, rfl⟩ := h1.shape
  obtain ⟨A2, c2, rfl⟩ := h2.shape
  obtain ⟨A3, c3, rfl⟩ := h3.shape
  clear h0 h1 h2 h3 a0 a1 a2 hr1 hr2
  cases hl : (lightB items.length wss && (decide (ts.length ≤ 60) && decide (gs.length ≤ 60))) with
  | false =>
    obtain ⟨hl1, hl2⟩ : (lightB items.length wss = false ∨ lightB items.length wss = true) ∧ True := ⟨by cases lightB items.length wss <;> simp, trivial⟩
    have hcase : lightB items.length wss = false ∨ (lightB items.length wss = true ∧ 60 < ts.length) ∨ (lightB items.length wss = true ∧ ts.length ≤ 60 ∧ 60 < gs.length) := by
      cases h : lightB items.length wss with
      | false => exact .inl rfl
      | true =>
        simp [h] at hl
        rcases Nat.lt_or_ge 60 ts.length with h1 | h1
        · exact .inr (.inl ⟨rfl, h1⟩)
        · exact .inr (.inr ⟨rfl, h1, hl h1⟩)
    clear hl hl1 hl2
    rcases hcase with hl | ⟨hl, hn⟩ | ⟨hl, hn, hn2⟩
    all_goals
      have Hl := Lib.hid hl; clear hl
      go_enter Try.func5, Try.ntmps5
      go_wp2_with (first
        | (go_at_call 9; refine (light_any _ _ _ _ _ wss _ (RIntsss.stable.up H1.out (below_alloc _ _))).mono ?_; rintro e w1 ⟨rfl, hb⟩; rw [Hl.out])
        | (go_at_call 10; refine (lives_any _).mono ?_; rintro e w2 ⟨rfl, hb2⟩))
      go_ret
      exact ⟨rfl, (below_alloc _ _).trans ((hb.mono (by simp)).trans (hb2.mono (by have := hb.size; simp at this; omega)))⟩
  | true =>
    simp only [Bool.and_eq_true, decide_eq_true_eq] at hl
    obtain ⟨hl, hn1, hn2⟩ := hl
    have Hl := Lib.hid hl
    clear hl
    go_enter Try.func5, Try.ntmps5
    go_wp2_with (first
        | (go_at_call 9
           refine (light_any _ _ _ _ _ wss _ (RIntsss.stable.up H1.out (below_alloc _ _))).mono ?_
           rintro e w1 ⟨rfl, hb⟩
           rw [Hl.out]
           obtain ⟨hx0, hx1, hx2⟩ := box3 hb
           have Hb1 := Lib.hid ((below_alloc _ _).trans (hb.mono (by simp)))
           have hz1 : W.heap.size < w1.heap.size := (by have := hb.size; simp at this; omega)
           clear hb))
    go_region_held3 (fun w' => w'.cell? ⟨W.heap.size, 0, none⟩ = some (.slice A0 items.length c0) ∧ w'.cell? ⟨W.heap.size, 1, none⟩ = some (.slice A1 wss.length c1) ∧ w'.cell? ⟨W.heap.size, 2, none⟩ = some (.int .i64 r))
      (first | go_keep)
      (first
        | (go_at_call 15
           have hbd : Below W.heap.size W w1.drew := below_drewN Hb1.out 1
           refine (Taken_any _ _ _ r items wss ts _ (RItems.stable.up H0.out hbd) (RIntsss.stable.up H1.out hbd) (RBools.stable.up H2.out hbd)).mono ?_
           rintro e w2 ⟨v, l, rfl, htk, hv, hll, hb2⟩
           have hy0 := (hb2.cell (p := ⟨W.heap.size, 0, none⟩) hz1).trans hx0
           have hy1 := (hb2.cell (p := ⟨W.heap.size, 1, none⟩) hz1).trans hx1
           have hy2 := (hb2.cell (p := ⟨W.heap.size, 2, none⟩) hz1).trans hx2
           have Htk := Lib.hid htk
           have Hv := Lib.hid hv
           obtain ⟨Av, cv, rfl⟩ := hv.shape
           have Hb2 := Lib.hid (hbd.trans (hb2.mono (Nat.le_of_lt hz1)))
           have hz2 : W.heap.size < w2.heap.size := Nat.lt_of_lt_of_le hz1 hb2.size
           clear htk hv hll hb2 hbd)
        | (go_at_call 16
           refine (refTaken_any _ _ _ r items wss ts _ (RItems.stable.up H0.out Hb2.out) (RIntsss.stable.up H1.out Hb2.out) (RBools.stable.up H2.out Hb2.out)).mono ?_
           rintro e w3 ⟨u, l2, rfl, htk2, hu, hll2, hb3⟩
           have hu0 := (hb3.cell (p := ⟨W.heap.size, 0, none⟩) hz2).trans hy0
           have hu1 := (hb3.cell (p := ⟨W.heap.size, 1, none⟩) hz2).trans hy1
           have hu2 := (hb3.cell (p := ⟨W.heap.size, 2, none⟩) hz2).trans hy2
           obtain rfl := htk2.unique Htk.out
           have Hu := Lib.hid hu
           obtain ⟨Au, cu, rfl⟩ := hu.shape
           have Hv3 := Lib.hid (RInts.stable.up Hv.out hb3)
           have Hb3 := Lib.hid (Hb2.out.trans (hb3.mono (Nat.le_of_lt hz2)))
           have hz3 : W.heap.size < w3.heap.size := Nat.lt_of_lt_of_le hz2 hb3.size
           clear htk2 hu hll2 hb3 Hv Hb2))
    have hgu := Hu.out
    have hgv := Hv3.out
    obtain ⟨Au', cu', eu1, hmu, hatu⟩ := hgu.open_
    obtain ⟨Av', cv', ev1, hmv, hatv⟩ := hgv.open_
    simp only [Value.slice.injEq] at eu1 ev1
    obtain ⟨rfl, _, rfl⟩ := eu1
    obtain ⟨rfl, _, rfl⟩ := ev1
    have Hatu := Lib.hid hatu
    have Hatv := Lib.hid hatv
    have Hg3 := Lib.hid (RInts.stable.up H3.out Hb3.out)
    have H03 := Lib.hid (RItems.stable.up H0.out Hb3.out)
    have H13 := Lib.hid (RIntsss.stable.up H1.out Hb3.out)
    clear hatu hatv hgu hgv H0 H1 H2 H3 Hb1 hy0 hy1 hy2 hx0 hx1 hx2
    go_wp2
    go_loopw [37] (fun sv wr => ∃ k : Nat, k ≤ l2.length ∧ sv = .int .i64 k ∧ (∃ m, wr = w3.drewN m)) (fun sv _ => l2.length - (intOf sv).toNat)
    case atStart => exact ⟨0, Nat.zero_le _, rfl, ⟨0, rfl⟩⟩
    case round =>
      obtain ⟨k, hkle, rfl, ⟨m, rfl⟩⟩ := hrel
      by_cases hklt : k < l2.length
      · obtain ⟨bj, offj, uj, rfl, hbj, hcellj, huj⟩ := Hatv.out.lt_ hklt
        obtain ⟨bi, offi, ui, rfl, hbi, hcelli, hui⟩ := Hatu.out.lt_ hklt
        obtain rfl := huj
        obtain rfl := hui
        go_wp2
        go_quiet (fail)
        go_wp2
        go_roundw
        case rel => exact ⟨k + 1, by omega, by go_num, ⟨_, rfl⟩⟩
        case measure => simp [intOf]; omega
      · obtain rfl : k = l2.length := by omega
        clear hklt hkle Hatu Hatv
        have hbd : Below w3.heap.size w3 (w3.drewN m) := below_drewN (Below.refl _ _) m
        have Hb4 := Lib.hid (below_drewN Hb3.out m)
        have Hu4 := Lib.hid (RInts.stable.up Hu.out hbd)
        have Hv4 := Lib.hid (RInts.stable.up Hv3.out hbd)
        have Hg4 := Lib.hid (RInts.stable.up Hg3.out hbd)
        have H04 := Lib.hid (RItems.stable.up H03.out hbd)
        have H14 := Lib.hid (RIntsss.stable.up H13.out hbd)
        have hq0 := (hbd.cell (p := ⟨W.heap.size, 0, none⟩) hz3).trans hu0
        have hq1 := (hbd.cell (p := ⟨W.heap.size, 1, none⟩) hz3).trans hu1
        have hq2 := (hbd.cell (p := ⟨W.heap.size, 2, none⟩) hz3).trans hu2
        have hz4 : W.heap.size < (w3.drewN m).heap.size := by simpa using hz3
        clear hbd hu0 hu1 hu2 hz3 hz1 hz2 Hu Hv3 Hg3 H03 H13 Hb3 Htk
        generalize w3.drewN m = w4 at *
        go_wp2
        have hy0 := fun d os => cell_regrown hq0 d os
        have hy1 := fun d os => cell_regrown hq1 d os
        have hy2 := fun d os => cell_regrown hq2 d os
        have Hc1 := Lib.hid fun d os => fit2 (Right_any (.slice A0 items.length c0) (.slice A1 wss.length c1) (.slice A3 gs.length c3) r items wss gs (grow (redrawn w4 d) os) (RItems.stable.up H04.out (below_regrown w4 d os)) (RIntsss.stable.up H14.out (below_regrown w4 d os)) (RInts.stable.up Hg4.out (below_regrown w4 d os)))
        have Hc2 := Lib.hid fun d os => fit2 (refRight_any (.slice A0 items.length c0) (.slice A1 wss.length c1) (.slice A3 gs.length c3) r items wss gs (grow (redrawn w4 d) os) (RItems.stable.up H04.out (below_regrown w4 d os)) (RIntsss.stable.up H14.out (below_regrown w4 d os)) (RInts.stable.up Hg4.out (below_regrown w4 d os)))
        have Hc3 := Lib.hid fun d os => fit2 (Right_any (.slice A0 items.length c0) (.slice A1 wss.length c1) (.slice Av l2.length cv) r items wss l2 (grow (redrawn w4 d) os) (RItems.stable.up H04.out (below_regrown w4 d os)) (RIntsss.stable.up H14.out (below_regrown w4 d os)) (RInts.stable.up Hv4.out (below_regrown w4 d os)))
        have Hc4 := Lib.hid fun d os => fit2 (refRight_any (.slice A0 items.length c0) (.slice A1 wss.length c1) (.slice Au l2.length cu) r items wss l2 (grow (redrawn w4 d) os) (RItems.stable.up H04.out (below_regrown w4 d os)) (RIntsss.stable.up H14.out (below_regrown w4 d os)) (RInts.stable.up Hu4.out (below_regrown w4 d os)))
        generalize rightB items wss r gs = rg at Hc1 Hc2
        generalize rightB items wss r l2 = rl at Hc3 Hc4
        clear hq0 hq1 hq2 H04 H14 Hg4 Hv4 Hu4
        refine wp_region_quiet_below (by kernel_rfl) (by kernel_rfl) ?_
        repeat (quiet_step (first
          | (go_at_call 17; exact Calls.regrown_of (Hc1.out _ _ _ (by with_reducible rfl)))
          | (go_at_call 18; exact Calls.regrown_of (Hc2.out _ _ _ (by with_reducible rfl)))
          | (go_at_call 17; exact Calls.regrown_of (Hc3.out _ _ _ (by with_reducible rfl)))
          | (go_at_call 18; exact Calls.regrown_of (Hc4.out _ _ _ (by with_reducible rfl)))
          | (go_at_call 10; exact Calls.regrown_of (lives_any _))))
        refine wpQuiet_nil ?_
        intro _ hw'
        obtain ⟨⟨dq, osq⟩, hw''⟩ := hw'
        subst hw''
        go_wp2
        go_ret
        exact ⟨rfl, Hb4.out.trans ((below_regrown w4 dq osq).mono Hb4.out.size)⟩
end Go.Proofs.Ytlaihjhkghbfkaa
