/- The law TrimMeans, walked. -/
import Derived.Deep.RegionHeld3
import Derived.Lib.QuietBelow
import Derived.Deep.DeepCutAuto
import Derived.Test.YtdofiipckcfopaaQTrimK2
import Derived.Test.YtdofiipckcfopaaZs
namespace Go.Proofs.Ytdofiipckcfopaa
open Go.RowKit Go.Sort

theorem fit1 {P : Program} {f : FuncId} {a v0 : Value} {w : World} {post : Ending → World → Prop} (h : Calls P f #[v0, a] w post) : ∀ v, v = v0 → Calls P f #[v, a] w post := by rintro _ rfl; exact h
theorem some_eq {n : Nat} {C : Cls} {t : TrS} (hok : clsOk n C) (h : RunTo n (startS C) t) : someN t.C n = someN C n := by
  obtain ⟨hg, hk⟩ := run_grows hok h
  rw [Bool.eq_iff_iff, someN_iff, someN_iff]
  constructor
  · rintro ⟨o, ho, hs⟩
    exact ⟨t.F.foldl setT o, by rw [foldT_length]; exact ho, hg.back o ho hs⟩
  · rintro ⟨o, ho, hs⟩
    exact ⟨o, ho, hk o hs⟩
theorem getD_pad {n : Nat} {own : List Bool} (h : own.length ≤ n) (i : Nat) : (padT n own).getD i false = own.getD i false := by
  unfold padT
  rw [List.take_of_length_le h]
  simp only [List.getD]
  rcases Nat.lt_or_ge i own.length with hi | hi
  · rw [List.getElem?_append_left hi]
  · rw [List.getElem?_append_right hi, List.getElem?_eq_none hi, List.getElem?_replicate]
    split <;> rfl
theorem litTrue_pad {n : Nat} {own : List Bool} (h : own.length ≤ n) (m : Int) : litTrue (padT n own) m = litTrue own m := by
  unfold litTrue
  rw [getD_pad h, getD_pad h]
theorem satC_pad {n : Nat} {own : List Bool} (h : own.length ≤ n) (C : Cls) : satC C (padT n own) = satC C own := by
  unfold satC clauseTrue
  congr 1
  funext c
  congr 1
  funext m
  exact litTrue_pad h m
theorem hold_grow {n : Nat} {C : Cls} {t : TrS} {own : List Bool} (hok : clsOk n C) (h : RunTo n (startS C) t) (hl : own.length ≤ n) (hs : holdsI t.C own = -1) : holdsI C (growT n t.F own) = -1 :=
  holdsI_iff.2 ((run_grows hok h).1.back _ (padT_length n own) ((satC_pad hl t.C).trans (holdsI_iff.1 hs)))
theorem holds_ne {C : Cls} {o : List Bool} (h : holdsI C o ≠ -1) : ∃ i : Nat, holdsI C o = (i : Int) := by
  unfold holdsI at h ⊢
  split at h
  · next i _ => exact ⟨i, rfl⟩
  · exact absurd rfl h
theorem meansCase {v : Int} {C : Cls} {k : Nat} (h : ¬ (lightQ v C = true ∧ v ≤ 9 ∧ satMayN v C = 0 ∧ k ≤ 100)) :
    lightQ v C = false ∨ (lightQ v C = true ∧ 9 < v) ∨ (lightQ v C = true ∧ v ≤ 9 ∧ satMayN v C ≠ 0) ∨ (lightQ v C = true ∧ v ≤ 9 ∧ satMayN v C = 0 ∧ 100 < k) := by
  cases hl : lightQ v C with
  | false => exact .inl rfl
  | true =>
    by_cases h1 : v ≤ 9
    · by_cases h2 : satMayN v C = 0
      · refine .inr (.inr (.inr ⟨rfl, h1, h2, ?_⟩))
        rcases Nat.lt_or_ge 100 k with h3 | h3
        · exact h3
        · exact absurd ⟨hl, h1, h2, h3⟩ h
      · exact .inr (.inr (.inl ⟨rfl, h1, h2⟩))
    · exact .inr (.inl ⟨rfl, by omega⟩)
set_option maxRecDepth 100000 in
set_option maxHeartbeats 2000000 in
theorem walk_TrimMeans (W : World) (v0 v1 : Value) (a0 : Arg Try.prog W 24 v0) (a1 : Arg Try.prog W 40 v1) :
    Calls Try.prog 6 #[v0, v1] W fun e W' => e = .returned (.bool true) ∧ Below W.heap.size W W' := by
  obtain ⟨v, s, C, rfl, h0, hv1, hv2⟩ := arg_question a0
  obtain ⟨ts, h1⟩ := arg_slice a1 Try.underlying40 reads1_bools
  obtain ⟨A, c, rfl⟩ := h0.shape
  have H0 := Lib.hid h0
  have H1 := Lib.hid h1
  obtain ⟨A1, c1, rfl⟩ := h1.shape
  have hbx := below_alloc W (.cells #[.int .i64 v, .slice A C.length c] 24)
  have Hb0 := Lib.hid hbx
  have hx0 : (W.alloc (.cells #[.int .i64 v, .slice A C.length c] 24)).cell? ⟨W.heap.size, 0, none⟩ = some (.int .i64 v) := by simp [go_sem]
  have hx1 : (W.alloc (.cells #[.int .i64 v, .slice A C.length c] 24)).cell? ⟨W.heap.size, 1, none⟩ = some (.slice A C.length c) := by simp [go_sem]
  have Hx0 := Lib.hid hx0; have Hx1 := Lib.hid hx1
  have hz0 : W.heap.size < (W.alloc (.cells #[.int .i64 v, .slice A C.length c] 24)).heap.size := by simp
  clear hbx hx0 hx1 h0 h1 a0 a1
  by_cases hcond : lightQ v C = true ∧ v ≤ 9 ∧ satMayN v C = 0 ∧ ts.length ≤ 100
  case neg =>
    have hc := meansCase hcond
    clear hcond
    rcases hc with hl | ⟨hl, h9⟩ | ⟨hl, h9, hm⟩ | ⟨hl, h9, hm, h100⟩
    · have Hl := Lib.hid hl; clear hl
      go_enter Try.func6, Try.ntmps6
      go_wp2_with (first
        | (go_at_call 8; refine (light_any _ _ C _ (RIntss.stable.up H0.out Hb0.out)).mono ?_; rintro e w1 ⟨rfl, hb⟩; rw [Hl.out])
        | (go_at_call 9; refine (lives_any _).mono ?_; rintro e w2 ⟨rfl, hb2⟩))
      go_ret
      exact ⟨rfl, Hb0.out.trans ((hb.mono (by simp)).trans (hb2.mono (by have := hb.size; simp at this; omega)))⟩
    · have Hl := Lib.hid hl; clear hl
      go_enter Try.func6, Try.ntmps6
      go_wp2_with (first
        | (go_at_call 8
           refine (light_any _ _ C _ (RIntss.stable.up H0.out Hb0.out)).mono ?_
           rintro e w1 ⟨rfl, hb⟩
           rw [Hl.out]
           have hy0 := (hb.cell (p := ⟨W.heap.size, 0, none⟩) hz0).trans Hx0.out)
        | (go_at_call 9; refine (lives_any _).mono ?_; rintro e w2 ⟨rfl, hb2⟩))
      go_ret
      exact ⟨rfl, Hb0.out.trans ((hb.mono (by simp)).trans (hb2.mono (by have := hb.size; simp at this; omega)))⟩
    all_goals
      have Hl := Lib.hid hl; clear hl
      have Hm := Lib.hid hm
      have hne : (((satMayN v C : Nat) : Int) != 0) = decide (satMayN v C ≠ 0) := by rw [Bool.eq_iff_iff]; simp
      simp only [hm, ne_eq, not_false_eq_true, decide_true, not_true_eq_false, decide_false] at hne
      clear hm
      go_enter Try.func6, Try.ntmps6
      go_wp2_with (first
        | (go_at_call 8
           refine (light_any _ _ C _ (RIntss.stable.up H0.out Hb0.out)).mono ?_
           rintro e w1 ⟨rfl, hb⟩
           rw [Hl.out]
           have hy0 := (hb.cell (p := ⟨W.heap.size, 0, none⟩) hz0).trans Hx0.out
           have hy1 := (hb.cell (p := ⟨W.heap.size, 1, none⟩) hz0).trans Hx1.out
           have Hb1 := Lib.hid (Hb0.out.trans (hb.mono (Nat.le_of_lt hz0)))
           clear hb)
        | (go_at_call 11; refine (refSatMay_any _ _ C _ (RIntss.stable.up H0.out Hb1.out)).mono ?_; rintro e w2 ⟨rfl, hb2⟩; have Hb2 := Lib.hid (Hb1.out.trans (hb2.mono Hb1.out.size)); clear hb2)
        | (go_at_call 9; refine (lives_any _).mono ?_; rintro e w3 ⟨rfl, hb3⟩))
      go_ret
      exact ⟨rfl, Hb2.out.trans (hb3.mono Hb2.out.size)⟩
  case pos =>
    obtain ⟨hl, h9, hm, h100⟩ := hcond
    have Hl := Lib.hid hl
    have Hm := Lib.hid (show ((satMayN v C : Nat) : Int) = 0 by rw [hm]; rfl)
    have Hm0 := Lib.hid hm
    have hCl : C.length ≤ 60 := by simp [lightQ] at hl; omega
    clear hl hm
    go_enter Try.func6, Try.ntmps6
    go_wp2_with (first
        | (go_at_call 8
           refine (light_any _ _ C _ (RIntss.stable.up H0.out Hb0.out)).mono ?_
           rintro e w1 ⟨rfl, hb⟩
           rw [Hl.out]
           have hy0 := (hb.cell (p := ⟨W.heap.size, 0, none⟩) hz0).trans Hx0.out
           have hy1 := (hb.cell (p := ⟨W.heap.size, 1, none⟩) hz0).trans Hx1.out
           have hz1 : W.heap.size < w1.heap.size := Nat.lt_of_lt_of_le hz0 hb.size
           have Hb1 := Lib.hid (Hb0.out.trans (hb.mono (Nat.le_of_lt hz0)))
           clear hb)
        | (go_at_call 11
           refine (refSatMay_any _ _ C _ (RIntss.stable.up H0.out Hb1.out)).mono ?_
           rintro e w2 ⟨rfl, hb2⟩
           rw [Hm.out]
           have hu0 := (hb2.cell (p := ⟨W.heap.size, 0, none⟩) hz1).trans hy0
           have hu1 := (hb2.cell (p := ⟨W.heap.size, 1, none⟩) hz1).trans hy1
           have hz2 : W.heap.size < w2.heap.size := Nat.lt_of_lt_of_le hz1 hb2.size
           have Hb2 := Lib.hid (Hb1.out.trans (hb2.mono Hb1.out.size))
           clear hb2 hy0 hy1))
    refine (Trim_any v _ C _ (RIntss.stable.up H0.out Hb2.out)).mono ?_
    rintro e w3 (⟨hz, _⟩ | ⟨_, n, t, vC, vF, rfl, hn, hok, hrun, rfl, hrC, hrF, hb3⟩)
    · exact absurd Hm0.out hz
    obtain ⟨AC, cC, rfl⟩ := hrC.shape
    obtain ⟨AF, cF, rfl⟩ := hrF.shape
    have hq0 := (hb3.cell (p := ⟨W.heap.size, 0, none⟩) hz2).trans hu0
    have hq1 := (hb3.cell (p := ⟨W.heap.size, 1, none⟩) hz2).trans hu1
    have hz3 : W.heap.size < w3.heap.size := Nat.lt_of_lt_of_le hz2 hb3.size
    have HrC := Lib.hid hrC
    have HrF := Lib.hid hrF
    have Hb3 := Lib.hid (Hb2.out.trans (hb3.mono Hb2.out.size))
    have Hse := Lib.hid (some_eq hok hrun)
    have Hhg := Lib.hid (fun own hl hs => hold_grow (own := own) hok hrun hl hs)
    have Hlits := Lib.hid (fun x hx => (run_grows hok hrun).1.lits x hx)
    clear hrC hrF hb3 hu0 hu1 hrun hok
    unfold cells3
    go_upto_region 4 with fail
    have hbe := below_alloc w3 (.cells #[.int .i64 (n : Int), .slice AC t.C.length cC, .slice AF t.F.length cF] 29)
    have hr0 : (w3.alloc (.cells #[.int .i64 (n : Int), .slice AC t.C.length cC, .slice AF t.F.length cF] 29)).cell? ⟨w3.heap.size, 0, none⟩ = some (.int .i64 (n : Int)) := by simp [go_sem]
    have hr1 : (w3.alloc (.cells #[.int .i64 (n : Int), .slice AC t.C.length cC, .slice AF t.F.length cF] 29)).cell? ⟨w3.heap.size, 1, none⟩ = some (.slice AC t.C.length cC) := by simp [go_sem]
    have hr2 : (w3.alloc (.cells #[.int .i64 (n : Int), .slice AC t.C.length cC, .slice AF t.F.length cF] 29)).cell? ⟨w3.heap.size, 2, none⟩ = some (.slice AF t.F.length cF) := by simp [go_sem]
    have hz4 : w3.heap.size < (w3.alloc (.cells #[.int .i64 (n : Int), .slice AC t.C.length cC, .slice AF t.F.length cF] 29)).heap.size := by simp
    have hp0 := (hbe.cell (p := ⟨W.heap.size, 0, none⟩) hz3).trans hq0
    have hp1 := (hbe.cell (p := ⟨W.heap.size, 1, none⟩) hz3).trans hq1
    have HrC4 := Lib.hid (RIntss.stable.up HrC.out hbe)
    have HrF4 := Lib.hid (RInts.stable.up HrF.out hbe)
    have Hb4 := Lib.hid (Hb3.out.trans (hbe.mono Hb3.out.size))
    obtain ⟨B3, hB3⟩ : ∃ B3, B3 = w3.heap.size := ⟨_, rfl⟩
    have hBW : W.heap.size ≤ B3 := by omega
    rw [← hB3] at hr0 hr1 hr2 hz4 ⊢
    clear hbe hq0 hq1 hz1 hz2 hz3 HrC HrF Hb1 Hb2 Hb3 Hl
    generalize w3.alloc (.cells #[.int .i64 (n : Int), .slice AC t.C.length cC, .slice AF t.F.length cF] 29) = w4 at *
    clear hB3
    have H04 := Lib.hid (RIntss.stable.up H0.out Hb4.out)
    have hy0 := fun d os => cell_regrown hp0 d os
    have hy1 := fun d os => cell_regrown hp1 d os
    have hy2 := fun d os => cell_regrown hr0 d os
    have hy3 := fun d os => cell_regrown hr1 d os
    have Hc1 := Lib.hid fun d os => fit1 (Some_any (.slice A C.length c) C n (by omega) (grow (redrawn w4 d) os) (RIntss.stable.up H04.out (below_regrown w4 d os)))
    have Hc2 := Lib.hid fun d os => fit1 (Some_any (.slice AC t.C.length cC) t.C n (by omega) (grow (redrawn w4 d) os) (RIntss.stable.up HrC4.out (below_regrown w4 d os)))
    rw [Hse.out] at Hc2
    generalize someN C n = sb at Hc1 Hc2
    refine wp_region_quiet_below (by kernel_rfl) (by kernel_rfl) ?_
    repeat (quiet_step (first
      | (go_at_call 15; exact Calls.regrown_of (Hc1.out _ _ _ (by with_reducible rfl)))
      | (go_at_call 15; exact Calls.regrown_of (Hc2.out _ _ _ (by with_reducible rfl)))))
    refine wpQuiet_nil ?_
    intro _ hw'
    obtain ⟨⟨dq, osq⟩, hw''⟩ := hw'
    subst hw''
    go_upto_region 6 with fail
    have hbq := below_regrown w4 dq osq
    have hx0 := cell_regrown hp0 dq osq
    have hx1 := cell_regrown hp1 dq osq
    have hs0 := cell_regrown hr0 dq osq
    have hs1 := cell_regrown hr1 dq osq
    have hs2 := cell_regrown hr2 dq osq
    have HrC5 := Lib.hid (RIntss.stable.up HrC4.out hbq)
    have HrF5 := Lib.hid (RInts.stable.up HrF4.out hbq)
    have Hb5 := Lib.hid (Hb4.out.trans (hbq.mono Hb4.out.size))
    have hz5 : B3 < (grow (redrawn w4 dq) osq).heap.size := Nat.lt_of_lt_of_le hz4 hbq.size
    clear hy0 hy1 hy2 hy3 Hc1 Hc2 hbq hp0 hp1 hr0 hr1 hr2 hz4 HrC4 HrF4 Hb4 H04 Hse
    generalize grow (redrawn w4 dq) osq = w5 at *
    have hcap : ts.length ≤ c1 := H1.out.cap_
    go_cut [7] (fun s7 wx => s7 = .slice A1 (min ts.length n) c1 ∧ w5 = wx)
    case first =>
      rcases Nat.lt_or_ge n ts.length with hlt | hge
      · have Hmin := Lib.hid (show min ts.length n = n by omega)
        have hnc : n ≤ c1 := by omega
        go_wp2_with fail
        all_goals
          go_meet
          exact ⟨by rw [Hmin.out], rfl⟩
      · have Hmin := Lib.hid (show min ts.length n = ts.length by omega)
        go_wp2_with fail
        all_goals
          go_meet
          exact ⟨by rw [Hmin.out], rfl⟩
    case rest =>
      obtain ⟨rfl, hwc⟩ := hcut
      subst hwc
      have Hown := Lib.hid (show RBools w5 (Lt w5.heap.size) (.slice A1 (min ts.length n) c1) (ts.take (min ts.length n)) from RSl.take_ (RBools.stable.up H1.out Hb5.out) (by omega))
      obtain ⟨own, hown⟩ : ∃ own, own = ts.take (min ts.length n) := ⟨_, rfl⟩
      have hol : own.length ≤ n := by rw [hown]; simp; omega
      have hol2 : own.length = min ts.length n := by rw [hown]; simp
      rw [← hown] at Hown
      clear hown
      have Hh := Lib.hid (Holds_any (.slice AC t.C.length cC) (.slice A1 (min ts.length n) c1) t.C own w5 HrC5.out Hown.out)
      by_cases hh : holdsI t.C own = -1
      case neg =>
        obtain ⟨hi, hhi⟩ := holds_ne hh
        have Hhi := Lib.hid hhi
        have hne : ((hi : Int) != (-1 : Int)) = true := by simp
        clear hh hhi hol2
        go_wp2_with (first
          | (go_at_call 16; (with_reducible refine Hh.out.mono ?_); rintro e w6 ⟨rfl, rfl⟩; rw [Hhi.out])
          | (go_at_call 9; refine (lives_any _).mono ?_; rintro e w7 ⟨rfl, hb7⟩))
        go_ret
        exact ⟨rfl, Hb5.out.trans (hb7.mono Hb5.out.size)⟩
      case pos =>
        have Hhh := Lib.hid hh
        have Hfin := Lib.hid (Hhg.out own hol hh)
        clear hh hol2
        go_upto_region 9 with (first
          | (go_at_call 16; (with_reducible refine Hh.out.mono ?_); rintro e w6 ⟨rfl, rfl⟩; rw [Hhh.out]))
        have hWB : W.heap.size < w5.heap.size := by omega
        go_region_held3 (fun w' => w'.cell? ⟨W.heap.size, 1, none⟩ = some (.slice A C.length c) ∧ w'.cell? ⟨B3, 0, none⟩ = some (.int .i64 (n : Int)) ∧ w'.cell? ⟨B3, 1, none⟩ = some (.slice AC t.C.length cC) ∧ w'.cell? ⟨B3, 2, none⟩ = some (.slice AF t.F.length cF))
          (first | go_keep)
          (first
            | (go_at_call 14
               have hbd : Below w5.heap.size w5 w5.drew := below_drewN (Below.refl _ _) 1
               refine (Grow_any (n : Int) (.slice AC t.C.length cC) _ _ t.F own _ (RInts.stable.up HrF5.out hbd) (RBools.stable.up Hown.out hbd) ⟨_, _, _, rfl⟩ (by omega) (fun x hx => by obtain ⟨_, a, b⟩ := Hlits.out x hx; omega)).mono ?_
               rintro e w6 ⟨s, rfl, hs, hb6⟩
               rw [Int.toNat_natCast] at hs
               obtain ⟨AG, cG, rfl⟩ := hs.shape
               have hb56 := hbd.trans hb6
               have hg1 := (hb56.cell (p := ⟨W.heap.size, 1, none⟩) hWB).trans hx1
               have hg2 := (hb56.cell (p := ⟨B3, 0, none⟩) hz5).trans hs0
               have hg3 := (hb56.cell (p := ⟨B3, 1, none⟩) hz5).trans hs1
               have hg4 := (hb56.cell (p := ⟨B3, 2, none⟩) hz5).trans hs2
               have Hb6 := Lib.hid (Hb5.out.trans (hb56.mono Hb5.out.size))
               have hz6 : B3 < w6.heap.size := Nat.lt_of_lt_of_le hz5 hb56.size
               have hWB6 : W.heap.size < w6.heap.size := Nat.lt_of_lt_of_le hWB hb56.size
               have Hh6 := Lib.hid (Holds_any (.slice A C.length c) (.slice AG (growT n t.F own).length cG) C (growT n t.F own) w6 (RIntss.stable.up H0.out Hb6.out) (RBools.stable.sub hs fun b hb => hb.2))
               clear hs hb6 hb56 hbd)
            | (go_at_call 16
               (with_reducible refine Hh6.out.mono ?_)
               rintro e w7 ⟨rfl, rfl⟩
               rw [Hfin.out])
            | (go_at_call 9
               refine (lives_any _).mono ?_
               rintro e w8 ⟨rfl, hb8⟩
               have hk1 := (hb8.cell (p := ⟨W.heap.size, 1, none⟩) hWB6).trans hg1
               have hk2 := (hb8.cell (p := ⟨B3, 0, none⟩) hz6).trans hg2
               have hk3 := (hb8.cell (p := ⟨B3, 1, none⟩) hz6).trans hg3
               have hk4 := (hb8.cell (p := ⟨B3, 2, none⟩) hz6).trans hg4))
        go_wp2
        go_ret
        exact ⟨rfl, Hb6.out.trans (hb8.mono Hb6.out.size)⟩
end Go.Proofs.Ytdofiipckcfopaa
