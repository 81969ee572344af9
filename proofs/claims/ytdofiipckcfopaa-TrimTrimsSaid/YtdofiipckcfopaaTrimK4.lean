/- The law TrimTrims, walked. -/
import Derived.Test.YtdofiipckcfopaaTrimK2
import Derived.Test.YtdofiipckcfopaaTrimR6
import Derived.Test.YtdofiipckcfopaaFnSame
import Derived.Deep.RegionHeld3
namespace Go.Proofs.Ytdofiipckcfopaa
open Go.RowKit Go.Sort

theorem satMay_two (v : Int) (C : Cls) : satMayN v C = 0 ∨ satMayN v C = 1 ∨ satMayN v C = 2 := by
  unfold satMayN
  repeat' split
  all_goals simp
theorem trims_plain {n : Nat} {C : Cls} {t t' : TrS} (h : RunTo n (startS C) t) (k : RunTo n (startS C) t') : decide (t.C = t'.C) = true ∧ decide ([t.F] = [t'.F]) = true := by
  obtain rfl := h.unique k
  simp
theorem trimPost_no {v : Int} {C : Cls} {w w' : World} {e : Ending} {k : Nat} (hm : satMayN v C = k) (hk : k ≠ 0) (h : TrimPost v C w e w') : e = .returned (.tuple #[cells3 0 (.slice none 0 0) (.slice none 0 0), .int .i64 (k : Nat)]) ∧ Below w.heap.size w w' := by
  rcases h with ⟨_, h1, h2⟩ | ⟨h1, _⟩
  · rw [hm] at h1; exact ⟨h1, h2⟩
  · exact absurd (hm.symm.trans h1) hk
theorem trimPost_yes {n : Nat} {C : Cls} {w w' : World} {e : Ending} (hm : satMayN (n : Int) C = 0) (h : TrimPost (n : Int) C w e w') :
    ∃ (t : TrS) (vC vF : Value), RunTo n (startS C) t ∧ e = .returned (.tuple #[cells3 n vC vF, .int .i64 0]) ∧ RIntss w' (Lt w'.heap.size) vC t.C ∧ RInts w' (Lt w'.heap.size) vF t.F ∧ Below w.heap.size w w' := by
  rcases h with ⟨h1, _⟩ | ⟨_, m, t, vC, vF, hv, _, _, h4, h5, h6, h7, h8⟩
  · exact absurd hm h1
  · obtain rfl : n = m := by omega
    exact ⟨t, vC, vF, h4, h5, h6, h7, h8⟩
theorem two_first {w : World} {s : Value} {c : List Int} {t : TypeId} (h : RInts w (Lt w.heap.size) s c) (o : Obj) : RIntss ((w.alloc (.cells #[s] t)).alloc o) (Lt ((w.alloc (.cells #[s] t)).alloc o).heap.size) (.slice (some ⟨w.heap.size, 0, none⟩) 1 1) [c] :=
  RIntss.stable.up (single_reads rfl h) (below_alloc _ _)
theorem two_second {w : World} {s : Value} {c : List Int} {t : TypeId} (h : RInts w (Lt w.heap.size) s c) (o : Obj) : RIntss ((w.alloc o).alloc (.cells #[s] t)) (Lt ((w.alloc o).alloc (.cells #[s] t)).heap.size) (.slice (some ⟨w.heap.size + 1, 0, none⟩) 1 1) [c] :=
  single_reads (by simp) (RInts.stable.up h (below_alloc _ _))
set_option maxRecDepth 100000 in
set_option maxHeartbeats 2000000 in
theorem walk_TrimTrims (W : World) (v0 : Value) (a0 : Arg Try.prog W 24 v0) :
    Calls Try.prog 3 #[v0] W fun e W' => e = .returned (.bool true) ∧ Below W.heap.size W W' := by
  obtain ⟨v, s, C, rfl, h0, hv1, hv2⟩ := arg_question a0
  obtain ⟨A, c, rfl⟩ := h0.shape
  have H0 := Lib.hid h0
  have hbx := below_alloc W (.cells #[.int .i64 v, .slice A C.length c] 24)
  have Hb0 := Lib.hid hbx
  have hx0 : (W.alloc (.cells #[.int .i64 v, .slice A C.length c] 24)).cell? ⟨W.heap.size, 0, none⟩ = some (.int .i64 v) := by simp [go_sem]
  have hx1 : (W.alloc (.cells #[.int .i64 v, .slice A C.length c] 24)).cell? ⟨W.heap.size, 1, none⟩ = some (.slice A C.length c) := by simp [go_sem]
  have Hx0 := Lib.hid hx0; have Hx1 := Lib.hid hx1
  have hz0 : W.heap.size < (W.alloc (.cells #[.int .i64 v, .slice A C.length c] 24)).heap.size := by simp
  clear hbx hx0 hx1 h0 a0
  cases hl : lightQ v C with
  | false =>
    have Hl := Lib.hid hl; clear hl
    go_enter Try.func3, Try.ntmps3
    go_wp2_with (first
      | (go_at_call 8; refine (light_any _ _ C _ (RIntss.stable.up H0.out Hb0.out)).mono ?_; rintro e w1 ⟨rfl, hb⟩; rw [Hl.out])
      | (go_at_call 9; refine (lives_any _).mono ?_; rintro e w2 ⟨rfl, hb2⟩))
    go_ret
    exact ⟨rfl, Hb0.out.trans ((hb.mono (by simp)).trans (hb2.mono (by have := hb.size; simp at this; omega)))⟩
  | true =>
    have Hl := Lib.hid hl; clear hl
    rcases satMay_two v C with hm | hm | hm
    case inl =>
      obtain ⟨g0, _, gC, gok⟩ := satMay_ok hm
      obtain ⟨n, rfl⟩ := Int.eq_ofNat_of_zero_le g0
      rw [Int.toNat_natCast] at gok
      have Gok := Lib.hid gok
      have hn1024 : n ≤ 1024 := by omega
      have Hm := Lib.hid (show ((satMayN (n : Int) C : Nat) : Int) = 0 by rw [hm]; rfl)
      have Hm0 := Lib.hid hm
      clear hm gok g0
      go_enter Try.func3, Try.ntmps3
      go_upto_region 8 with (first
        | (go_at_call 8
           refine (light_any _ _ C _ (RIntss.stable.up H0.out Hb0.out)).mono ?_
           rintro e w1 ⟨rfl, hb⟩
           rw [Hl.out]
           have hy0 := (hb.cell (p := ⟨W.heap.size, 0, none⟩) hz0).trans Hx0.out
           have hy1 := (hb.cell (p := ⟨W.heap.size, 1, none⟩) hz0).trans Hx1.out
           have hz1 : W.heap.size < w1.heap.size := Nat.lt_of_lt_of_le hz0 hb.size
           have Hb1 := Lib.hid (Hb0.out.trans (hb.mono (Nat.le_of_lt hz0)))
           clear hb)
        | (go_at_call 10
           refine (Trim_any (n : Int) _ C _ (RIntss.stable.up H0.out Hb1.out)).mono ?_
           rintro e w3 h3
           obtain ⟨t, vC, vF, hrun, rfl, hrC, hrF, hb3⟩ := trimPost_yes Hm0.out h3
           obtain ⟨AC, cC, rfl⟩ := hrC.shape
           obtain ⟨AF, cF, rfl⟩ := hrF.shape
           have hq0 := (hb3.cell (p := ⟨W.heap.size, 0, none⟩) hz1).trans hy0
           have hq1 := (hb3.cell (p := ⟨W.heap.size, 1, none⟩) hz1).trans hy1
           have hz3 : W.heap.size < w3.heap.size := Nat.lt_of_lt_of_le hz1 hb3.size
           have Hb3 := Lib.hid ((Hb1.out.trans (hb3.mono Hb1.out.size)).alloc (by have := hb3.size; have := Hb1.out.size; omega) (.cells #[.int .i64 (n : Int), .slice AC t.C.length cC, .slice AF t.F.length cF] 29))
           have HrC := Lib.hid (RIntss.stable.up hrC (below_alloc w3 (.cells #[.int .i64 (n : Int), .slice AC t.C.length cC, .slice AF t.F.length cF] 29)))
           have HrF := Lib.hid (RInts.stable.up hrF (below_alloc w3 (.cells #[.int .i64 (n : Int), .slice AC t.C.length cC, .slice AF t.F.length cF] 29)))
           have Hrun := Lib.hid hrun
           clear hb3 hy0 hy1 hrC hrF hrun h3
           unfold cells3)
        | (go_at_call 11
           refine (refSatMay_any _ _ C _ (RIntss.stable.up H0.out Hb3.out)).mono ?_
           rintro e w4 ⟨rfl, hb4⟩
           rw [Hm.out]
           obtain ⟨hc4, hf4⟩ := bcell hb4
           have hs0 := (hb4.cell (p := ⟨w3.heap.size, 0, none⟩) (by simp)).trans (by simp [go_sem] : _ = some (Value.int .i64 (n : Int)))
           have hs1 := (hb4.cell (p := ⟨w3.heap.size, 1, none⟩) (by simp)).trans (by simp [go_sem] : _ = some (Value.slice AC t.C.length cC))
           have hs2 := (hb4.cell (p := ⟨w3.heap.size, 2, none⟩) (by simp)).trans (by simp [go_sem] : _ = some (Value.slice AF t.F.length cF))
           have hu0 := (hb4.cell (p := ⟨W.heap.size, 0, none⟩) (by simp; omega)).trans ((World.cell?_alloc_lt _ _ _ hz3).trans hq0)
           have hu1 := (hb4.cell (p := ⟨W.heap.size, 1, none⟩) (by simp; omega)).trans ((World.cell?_alloc_lt _ _ _ hz3).trans hq1)
           have hz4 : w3.heap.size < w4.heap.size := (by have := hb4.size; simp at this; omega)
           have HrC4 := Lib.hid (RIntss.stable.up HrC.out hb4)
           have HrF4 := Lib.hid (RInts.stable.up HrF.out hb4)
           have Hb4 := Lib.hid (Hb3.out.trans (hb4.mono Hb3.out.size))
           clear hb4 hc4 hf4 hq0 hq1 HrC HrF)
        | (go_at_call 12
           refine (Run_any n _ C _ (RIntss.stable.up H0.out Hb4.out) Gok.out hn1024 (by omega)).mono ?_
           rintro e w5 ⟨g, t', rfl, hg5, hrun5, hrk5, hb5⟩
           obtain rfl := Hrun.out.unique hrun5
           obtain ⟨wC, wF, wU, hrk⟩ := hrk5
           have HwC := Lib.hid hrk.reads
           have HwF := Lib.hid (ints_of_own (S := Lt w5.heap.size) hrk.oF fun b hb => (hrk.oF.lt b hb).2)
           have hk0 := hrk.cell.1
           have hk1 := hrk.cell.2.1
           have hgl := hrk.lt
           obtain ⟨BC, kC, rfl⟩ := HwC.out.shape
           obtain ⟨BF, kF, rfl⟩ := HwF.out.shape
           have hx0 := (hb5.cell (p := ⟨W.heap.size, 0, none⟩) (by show W.heap.size < w4.heap.size; omega)).trans hu0
           have hx1 := (hb5.cell (p := ⟨w3.heap.size, 0, none⟩) hz4).trans hs0
           have hx2 := (hb5.cell (p := ⟨w3.heap.size, 1, none⟩) hz4).trans hs1
           have hx3 := (hb5.cell (p := ⟨w3.heap.size, 2, none⟩) hz4).trans hs2
           have HrC5 := Lib.hid (RIntss.stable.up HrC4.out hb5)
           have HrF5 := Lib.hid (RInts.stable.up HrF4.out hb5)
           have hz5 : w3.heap.size < w5.heap.size := Nat.lt_of_lt_of_le hz4 hb5.size
           have Hb5 := Lib.hid (Hb4.out.trans (hb5.mono Hb4.out.size))
           clear hb5 hrk hrun5 hs0 hs1 hs2 hu0 hu1 HrC4 HrF4))
      have hWl : W.heap.size < w5.heap.size := by omega
      generalize w3.heap.size = B3 at *
      have tok1 : True := trivial
      have tok2 : True := trivial
      have hbd5 : Below w5.heap.size w5 w5.drew := below_drewN (Below.refl _ _) 1
      go_region_held3 (fun w' => w'.cell? ⟨W.heap.size, 0, none⟩ = some (.int .i64 (n : Int)) ∧ w'.cell? ⟨B3, 0, none⟩ = some (.int .i64 (n : Int)) ∧ w'.cell? ⟨B3, 1, none⟩ = some (.slice AC t.C.length cC) ∧ w'.cell? ⟨B3, 2, none⟩ = some (.slice AF t.F.length cF) ∧ w'.cell? ⟨g, 0, none⟩ = some (.slice BC t.C.length kC) ∧ w'.cell? ⟨g, 1, none⟩ = some (.slice BF t.F.length kF))
        (first | go_keep)
        (first
          | (go_at_call 13
             have _t := tok1
             (with_reducible refine (Same_any _ _ t.C t.C _ (RIntss.stable.up HrC5.out hbd5) (RIntss.stable.up HwC.out hbd5)).mono ?_)
             rintro e w6 ⟨rfl, nd, hw6⟩
             rw [decide_eq_true rfl]
             have hb6 : Below w5.heap.size w5 w6 := (by rw [hw6]; exact below_drewN hbd5 nd)
             have hy0 := (hb6.cell (p := ⟨W.heap.size, 0, none⟩) hWl).trans hx0
             have hy1 := (hb6.cell (p := ⟨B3, 0, none⟩) hz5).trans hx1
             have hy2 := (hb6.cell (p := ⟨B3, 1, none⟩) hz5).trans hx2
             have hy3 := (hb6.cell (p := ⟨B3, 2, none⟩) hz5).trans hx3
             have hy4 := (hb6.cell (p := ⟨g, 0, none⟩) hgl).trans hk0
             have hy5 := (hb6.cell (p := ⟨g, 1, none⟩) hgl).trans hk1
             have Hb6 := Lib.hid hb6
             have HrF6 := Lib.hid (RInts.stable.up HrF5.out hb6)
             have HwF6 := Lib.hid (RInts.stable.up HwF.out hb6)
             have hWl6 : W.heap.size < w6.heap.size := Nat.lt_of_lt_of_le hWl hb6.size
             have hz6 : B3 < w6.heap.size := Nat.lt_of_lt_of_le hz5 hb6.size
             have hgl6 : g < w6.heap.size := Nat.lt_of_lt_of_le hgl hb6.size
             clear hb6 hw6 tok1 _t hx0 hx1 hx2 hx3 hk0 hk1)
          | (go_at_call 13
             have _t := tok2
             (with_reducible first | refine (Same_any _ _ [t.F] [t.F] _ (two_first HrF6.out _) (two_second HwF6.out _)).mono ?_ | refine (Same_any _ _ [t.F] [t.F] _ (two_second HrF6.out _) (two_first HwF6.out _)).mono ?_)
             rintro e w7 ⟨rfl, nd, hw7⟩
             rw [decide_eq_true rfl]
             have hb7 : Below w6.heap.size w6 w7 := (by rw [hw7]; exact below_drewN (((Below.refl _ _).alloc (Nat.le_refl _) _).alloc (by simp) _) nd)
             have hu0 := (hb7.cell (p := ⟨W.heap.size, 0, none⟩) hWl6).trans hy0
             have hu1 := (hb7.cell (p := ⟨B3, 0, none⟩) hz6).trans hy1
             have hu2 := (hb7.cell (p := ⟨B3, 1, none⟩) hz6).trans hy2
             have hu3 := (hb7.cell (p := ⟨B3, 2, none⟩) hz6).trans hy3
             have hu4 := (hb7.cell (p := ⟨g, 0, none⟩) hgl6).trans hy4
             have hu5 := (hb7.cell (p := ⟨g, 1, none⟩) hgl6).trans hy5
             have hWl7 : W.heap.size < w7.heap.size := Nat.lt_of_lt_of_le hWl6 hb7.size
             have hz7 : B3 < w7.heap.size := Nat.lt_of_lt_of_le hz6 hb7.size
             have hgl7 : g < w7.heap.size := Nat.lt_of_lt_of_le hgl6 hb7.size
             have Hb7 := Lib.hid (Hb5.out.trans ((Hb6.out.trans (hb7.mono Hb6.out.size)).mono Hb5.out.size))
             clear hb7 hw7 tok2 _t hy0 hy1 hy2 hy3 hy4 hy5)
          | (go_at_call 9
             (with_reducible refine (lives_any _).mono ?_)
             rintro e w8 ⟨rfl, hb8⟩
             have hq0 := (hb8.cell (p := ⟨W.heap.size, 0, none⟩) hWl7).trans hu0
             have hq1 := (hb8.cell (p := ⟨B3, 0, none⟩) hz7).trans hu1
             have hq2 := (hb8.cell (p := ⟨B3, 1, none⟩) hz7).trans hu2
             have hq3 := (hb8.cell (p := ⟨B3, 2, none⟩) hz7).trans hu3
             have hq4 := (hb8.cell (p := ⟨g, 0, none⟩) hgl7).trans hu4
             have hq5 := (hb8.cell (p := ⟨g, 1, none⟩) hgl7).trans hu5
             have Hb8 := Lib.hid (Hb7.out.trans (hb8.mono Hb7.out.size))
             clear hb8))
      all_goals (go_wp2; go_ret; exact ⟨rfl, Hb8.out⟩)
    all_goals
      have Hm := Lib.hid hm; clear hm
      have i1 : ∀ w, (Instr.index 34 (.agg #[.int .i64 0, .int .i64 1, .int .i64 2]) (.int .i64 1)).run Try.prog w = .ok (.int .i64 1) w := fun _ => by kernel_rfl
      have i2 : ∀ w, (Instr.index 34 (.agg #[.int .i64 0, .int .i64 1, .int .i64 2]) (.int .i64 2)).run Try.prog w = .ok (.int .i64 2) w := fun _ => by kernel_rfl
      go_enter Try.func3, Try.ntmps3
      go_wp2_with (first
        | (go_at_call 8
           refine (light_any _ _ C _ (RIntss.stable.up H0.out Hb0.out)).mono ?_
           rintro e w1 ⟨rfl, hb⟩
           rw [Hl.out]
           have hy0 := (hb.cell (p := ⟨W.heap.size, 0, none⟩) hz0).trans Hx0.out
           have hy1 := (hb.cell (p := ⟨W.heap.size, 1, none⟩) hz0).trans Hx1.out
           have hz1 : W.heap.size < w1.heap.size := Nat.lt_of_lt_of_le hz0 hb.size
           have Hb1 := Lib.hid (Hb0.out.trans (hb.mono (Nat.le_of_lt hz0)))
           clear hb)
        | (go_at_call 10
           refine (Trim_any v _ C _ (RIntss.stable.up H0.out Hb1.out)).mono ?_
           rintro e w3 h3
           obtain ⟨rfl, hb3⟩ := trimPost_no Hm.out (by omega) h3
           have hq0 := (hb3.cell (p := ⟨W.heap.size, 0, none⟩) hz1).trans hy0
           have hq1 := (hb3.cell (p := ⟨W.heap.size, 1, none⟩) hz1).trans hy1
           have hz3 : W.heap.size < w3.heap.size := Nat.lt_of_lt_of_le hz1 hb3.size
           have Hb3 := Lib.hid (Hb1.out.trans (hb3.mono Hb1.out.size))
           clear hb3 hy0 hy1
           unfold cells3)
        | (go_at_call 11
           refine (refSatMay_any _ _ C _ (RIntss.stable.up H0.out (Hb3.out.alloc Hb3.out.size _))).mono ?_
           rintro e w4 ⟨rfl, hb4⟩
           rw [Hm.out]
           obtain ⟨hc4, hf4⟩ := bcell hb4
           have hz4 : w3.heap.size < w4.heap.size := (by have := hb4.size; simp at this; omega)
           have Hb4 := Lib.hid ((Hb3.out.alloc Hb3.out.size _).trans (hb4.mono (Hb3.out.alloc Hb3.out.size _).size))
           clear hb4)
        | (go_at_call 9; refine (lives_any _).mono ?_; rintro e w5 ⟨rfl, hb5⟩))
      go_ret
      exact ⟨rfl, Hb4.out.trans (hb5.mono Hb4.out.size)⟩
end Go.Proofs.Ytdofiipckcfopaa
