/- The law TrimEnds, walked. -/
import Derived.Test.YtdofiipckcfopaaZa5
import Derived.Test.YtdofiipckcfopaaZa6
namespace Go.Proofs.Ytdofiipckcfopaa
open Go.RowKit

theorem satMay_cases (v : Int) (C : Cls) : satMayN v C = 0 ∨ satMayN v C = 1 ∨ satMayN v C = 2 := by
  unfold satMayN; (repeat' split) <;> omega
theorem single_reads {w : World} {s : Value} {c : List Int} {t : TypeId} {b : Nat} (hb : b = w.heap.size) (h : RInts w (Lt w.heap.size) s c) : RIntss (w.alloc (.cells #[s] t)) (Lt (w.alloc (.cells #[s] t)).heap.size) (.slice (some ⟨b, 0, none⟩) 1 1) [c] :=
  rows_block (vs := [s]) (heap_new hb) (by simp [Lt, hb]) rfl (by omega) rfl fun i hi u hu => by
    match i, hi with
    | 0, _ => cases hu; exact RInts.stable.up h (below_alloc _ _)
set_option maxRecDepth 100000 in
set_option maxHeartbeats 1000000 in
theorem walk_TrimEnds (W : World) (v0 : Value) (a0 : Arg Try.prog W 24 v0) :
    Calls Try.prog 4 #[v0] W fun e W' => e = .returned (.bool true) ∧ Below W.heap.size W W' := by
  obtain ⟨v, s, C, rfl, h0, hv1, hv2⟩ := arg_question a0
  obtain ⟨A, c, rfl⟩ := h0.shape
  have H0 := Lib.hid h0
  clear h0 a0
  have hbx := below_alloc W (.cells #[.int .i64 v, .slice A C.length c] 24)
  have Hb0 := Lib.hid hbx
  have hx0 : (W.alloc (.cells #[.int .i64 v, .slice A C.length c] 24)).cell? ⟨W.heap.size, 0, none⟩ = some (.int .i64 v) := by simp [go_sem]
  have hx1 : (W.alloc (.cells #[.int .i64 v, .slice A C.length c] 24)).cell? ⟨W.heap.size, 1, none⟩ = some (.slice A C.length c) := by simp [go_sem]
  have Hx0 := Lib.hid hx0; have Hx1 := Lib.hid hx1
  have hz0 : W.heap.size < (W.alloc (.cells #[.int .i64 v, .slice A C.length c] 24)).heap.size := by simp
  clear hbx hx0 hx1
  cases hl : lightQ v C with
  | false =>
    have Hl := Lib.hid hl; clear hl
    go_enter Try.func4, Try.ntmps4
    go_wp2_with (first
      | (go_at_call 8; refine (light_any _ _ C _ (RIntss.stable.up H0.out Hb0.out)).mono ?_; rintro e w1 ⟨rfl, hb⟩; rw [Hl.out])
      | (go_at_call 9; refine (lives_any _).mono ?_; rintro e w2 ⟨rfl, hb2⟩))
    go_ret
    exact ⟨rfl, Hb0.out.trans ((hb.mono (by simp)).trans (hb2.mono (by have := hb.size; simp at this; omega)))⟩
  | true =>
    have Hl := Lib.hid hl
    by_cases hm : satMayN v C = 0
    case neg =>
      have hne : (((satMayN v C : Nat) : Int) != 0) = true := by simp; omega
      clear hl hm
      go_enter Try.func4, Try.ntmps4
      go_wp2_with (first
        | (go_at_call 8
           refine (light_any _ _ C _ (RIntss.stable.up H0.out Hb0.out)).mono ?_
           rintro e w1 ⟨rfl, hb⟩
           rw [Hl.out]
           have hy0 := (hb.cell (p := ⟨W.heap.size, 0, none⟩) hz0).trans Hx0.out
           have hy1 := (hb.cell (p := ⟨W.heap.size, 1, none⟩) hz0).trans Hx1.out
           have Hb1 := Lib.hid (Hb0.out.trans (hb.mono (Nat.le_of_lt hz0)))
           clear hb)
        | (go_at_call 11; refine (refSatMay_any _ _ C _ (RIntss.stable.up H0.out Hb1.out)).mono ?_; rintro e w2 ⟨rfl, hb2⟩; have Hb2 := Lib.hid (Hb1.out.trans (hb2.mono Hb1.out.size)); clear hb2)
        | (go_at_call 9; refine (lives_any _).mono ?_; rintro e w3 ⟨rfl, hb3⟩))
      go_ret
      exact ⟨rfl, Hb2.out.trans (hb3.mono Hb2.out.size)⟩
    case pos =>
      have Hm := Lib.hid (show ((satMayN v C : Nat) : Int) = 0 by rw [hm]; rfl)
      have Hm0 := Lib.hid hm
      have hCl : C.length ≤ 60 := by simp [lightQ] at hl; omega
      clear hl hm
      go_enter Try.func4, Try.ntmps4
      go_wp2_with (first
        | (go_at_call 8
           refine (light_any _ _ C _ (RIntss.stable.up H0.out Hb0.out)).mono ?_
           rintro e w1 ⟨rfl, hb⟩
           rw [Hl.out]
           have hy0 := (hb.cell (p := ⟨W.heap.size, 0, none⟩) hz0).trans Hx0.out
           have hy1 := (hb.cell (p := ⟨W.heap.size, 1, none⟩) hz0).trans Hx1.out
           have hz1 : W.heap.size < w1.heap.size := Nat.lt_of_lt_of_le hz0 hb.size
           have Hb1 := Lib.hid (Hb0.out.trans (hb.mono (Nat.le_of_lt hz0)))
           clear hb)
        | (go_at_call 11
           refine (refSatMay_any _ _ C _ (RIntss.stable.up H0.out Hb1.out)).mono ?_
           rintro e w2 ⟨rfl, hb2⟩
           rw [Hm.out]
           have hu0 := (hb2.cell (p := ⟨W.heap.size, 0, none⟩) hz1).trans hy0
           have hu1 := (hb2.cell (p := ⟨W.heap.size, 1, none⟩) hz1).trans hy1
           have hz2 : W.heap.size < w2.heap.size := Nat.lt_of_lt_of_le hz1 hb2.size
           have Hb2 := Lib.hid (Hb1.out.trans (hb2.mono Hb1.out.size))
           clear hb2 hy0 hy1))
      refine (Trim_any v _ C _ (RIntss.stable.up H0.out Hb2.out)).mono ?_
      rintro e w3 (⟨hz, _⟩ | ⟨_, n, t, vC, vF, rfl, hn, hok, hrun, rfl, hrC, hrF, hb3⟩)
      · exact absurd Hm0.out hz
      have Hend := Lib.hid (ended hn (by omega) hok hrun)
      obtain ⟨AC, cC, rfl⟩ := hrC.shape
      obtain ⟨AF, cF, rfl⟩ := hrF.shape
      have hq0 := (hb3.cell (p := ⟨W.heap.size, 0, none⟩) hz2).trans hu0
      have hq1 := (hb3.cell (p := ⟨W.heap.size, 1, none⟩) hz2).trans hu1
      have hz3 : W.heap.size < w3.heap.size := Nat.lt_of_lt_of_le hz2 hb3.size
      have HrC := Lib.hid hrC
      have Hb3 := Lib.hid (Hb2.out.trans (hb3.mono Hb2.out.size))
      clear hrC hrF hb3 hu0 hu1 hrun hok
      unfold cells3
      go_wp2_with fail
      have hbe := below_alloc w3 (.cells #[.int .i64 (n : Int), .slice AC t.C.length cC, .slice AF t.F.length cF] 29)
      have hr0 : (w3.alloc (.cells #[.int .i64 (n : Int), .slice AC t.C.length cC, .slice AF t.F.length cF] 29)).cell? ⟨w3.heap.size, 0, none⟩ = some (.int .i64 (n : Int)) := by simp [go_sem]
      have hr1 : (w3.alloc (.cells #[.int .i64 (n : Int), .slice AC t.C.length cC, .slice AF t.F.length cF] 29)).cell? ⟨w3.heap.size, 1, none⟩ = some (.slice AC t.C.length cC) := by simp [go_sem]
      have hz4 : w3.heap.size < (w3.alloc (.cells #[.int .i64 (n : Int), .slice AC t.C.length cC, .slice AF t.F.length cF] 29)).heap.size := by simp
      have hp0 := (hbe.cell (p := ⟨W.heap.size, 0, none⟩) hz3).trans hq0
      have hp1 := (hbe.cell (p := ⟨W.heap.size, 1, none⟩) hz3).trans hq1
      have HrC4 := Lib.hid (RIntss.stable.up HrC.out hbe)
      have Hb4 := Lib.hid (Hb3.out.trans (hbe.mono Hb3.out.size))
      obtain ⟨B3, hB3⟩ : ∃ B3, B3 = w3.heap.size := ⟨_, rfl⟩
      have hBW : W.heap.size ≤ B3 := by omega
      rw [← hB3] at hr0 hr1 hz4 ⊢
      clear hbe hq0 hq1 hz1 hz2 hz3 HrC Hb1 Hb2 Hb3 Hl
      generalize w3.alloc (.cells #[.int .i64 (n : Int), .slice AC t.C.length cC, .slice AF t.F.length cF] 29) = w4 at *
      clear hB3
      refine (Trim_any (n : Int) _ t.C _ HrC4.out).mono ?_
      rintro e w5 (⟨hz, _⟩ | ⟨_, n', u, uC, uF, hnn, _, _, hrun, rfl, hrC, hrF, hb5⟩)
      · exact absurd Hend.out.may hz
      obtain rfl : n = n' := by omega
      obtain ⟨huC, huF⟩ := Hend.out.again u hrun
      rw [huC] at hrC
      rw [huF] at hrF
      obtain ⟨AC', cC', rfl⟩ := hrC.shape
      obtain ⟨AF', cF', rfl⟩ := hrF.shape
      have hg0 := (hb5.cell (p := ⟨B3, 0, none⟩) hz4).trans hr0
      have hg1 := (hb5.cell (p := ⟨B3, 1, none⟩) hz4).trans hr1
      have hh0 := (hb5.cell (p := ⟨W.heap.size, 0, none⟩) (by simp; omega)).trans hp0
      have hh1 := (hb5.cell (p := ⟨W.heap.size, 1, none⟩) (by simp; omega)).trans hp1
      have hz5 : B3 < w5.heap.size := Nat.lt_of_lt_of_le hz4 hb5.size
      have HrC5 := Lib.hid (RIntss.stable.up HrC4.out hb5)
      have HrU5 := Lib.hid hrC
      have Hb5 := Lib.hid (Hb4.out.trans (hb5.mono Hb4.out.size))
      clear hrC hrF hb5 hr0 hr1 hp0 hp1 huC huF hrun hnn
      unfold cells3
      have Hs := Lib.hid (Same_any (.slice AC t.C.length cC) (.slice AC' t.C.length cC') t.C t.C (w5.alloc (.cells #[.int .i64 (n : Int), .slice AC' t.C.length cC', .slice AF' 0 cF'] 29)) (RIntss.stable.up HrC5.out (below_alloc _ _)) (RIntss.stable.up HrU5.out (below_alloc _ _)))
      have hle : ¬ C.length < t.C.length := by have := Hend.out.less; omega
      have hle' : t.C.length ≤ C.length := by omega
      have hzW : W.heap.size < w5.heap.size := by omega
      go_wp2_with (go_at_call 13; refine Hs.out.mono ?_; rintro e w6 ⟨rfl, dq, rfl⟩; rw [show decide (t.C = t.C) = true by simp])
      have hbe := below_drewN (below_alloc w5 (.cells #[.int .i64 (n : Int), .slice AC' t.C.length cC', .slice AF' 0 cF'] 29)) dq
      have hk1 := (hbe.cell (p := ⟨B3, 1, none⟩) hz5).trans hg1
      have HrC7 := Lib.hid (RIntss.stable.up HrC5.out hbe)
      have Hb7 := Lib.hid (Hb5.out.trans (hbe.mono Hb5.out.size))
      have hz7 : B3 < ((w5.alloc (.cells #[.int .i64 (n : Int), .slice AC' t.C.length cC', .slice AF' 0 cF'] 29)).drewN dq).heap.size := by simp; omega
      clear hbe hg0 hg1 hh0 hh1 hz5 HrC5 HrU5 Hs hz4 HrC4 Hb4 Hb5 hzW
      generalize (w5.alloc (.cells #[.int .i64 (n : Int), .slice AC' t.C.length cC', .slice AF' 0 cF'] 29)).drewN dq = w7 at *
      have hcap : t.C.length ≤ cC := HrC7.out.cap_
      obtain ⟨A', c', e', hmC, hatC⟩ := HrC7.out.open_
      simp only [Value.slice.injEq] at e'
      obtain ⟨rfl, _, rfl⟩ := e'
      have HatC := Lib.hid hatC
      clear hatC
      go_loopw [67] (fun sv wr => ∃ i : Nat, i ≤ t.C.length ∧ sv = .int .i64 i ∧ Below w7.heap.size w7 wr) (fun sv _ => t.C.length - (intOf sv).toNat)
      case atStart => exact ⟨0, Nat.zero_le _, rfl, Below.refl _ _⟩
      case round =>
        obtain ⟨wi, rfl⟩ : ∃ w0 : World, w0 = wr := ⟨_, rfl⟩
        obtain ⟨i, hile, rfl, hbel⟩ := hrel
        have Hbel := Lib.hid hbel
        clear hbel
        by_cases hilt : i < t.C.length
        · obtain ⟨bi, offi, ui, rfl, hbi, hcelli, hui⟩ := HatC.out.lt_ hilt
          have hci := (Hbel.out.cell (p := ⟨bi, offi + i, none⟩) hbi).trans hcelli
          have hki := (Hbel.out.cell (p := ⟨B3, 1, none⟩) hz7).trans hk1
          have Hui := Lib.hid (RInts.stable.up hui Hbel.out)
          obtain ⟨Ai, cci, rfl⟩ := hui.shape
          have Hui0 := Lib.hid hui
          have hone := Hend.out.one i hilt
          have hic : i ≤ cC := by omega
          have e1 : ((t.C[i].length : Int) == 1) = false := by simp; omega
          have Hz := Lib.hid hone.2
          clear hcelli hui hone
          by_cases h0 : t.C[i].length = 0
          · have e0 : ((t.C[i].length : Int) == 0) = true := by simp [h0]
            have e2 : ((t.C.length : Int) != 1) = false := by simp; have := Hz.out h0; omega
            clear h0
            go_wp2
            go_loopw [93] (fun sv wr => ∃ j : Nat, j ≤ i ∧ sv = .int .i64 j ∧ Below w7.heap.size w7 wr) (fun sv _ => i - (intOf sv).toNat)
            case atStart => exact ⟨0, Nat.zero_le _, rfl, Hbel.out⟩
            case round =>
              obtain ⟨wj, rfl⟩ : ∃ w0 : World, w0 = wr := ⟨_, rfl⟩
              obtain ⟨j, hjle, rfl, hbel2⟩ := hrel
              have Hbel2 := Lib.hid hbel2
              clear hbel2
              by_cases hjlt : j < i
              · obtain ⟨uj, hcellj, huj⟩ := HatC.out.again (show j < t.C.length by omega)
                have hcj := (Hbel2.out.cell (p := ⟨bi, offi + j, none⟩) hbi).trans hcellj
                obtain ⟨Aj, ccj, rfl⟩ := huj.shape
                obtain ⟨_, hci2, hui2⟩ := HatC.out.again hilt
                have Hd := Lib.hid (show decide ([t.C[i]] = [t.C[j]]) = false by simp; exact Hend.out.apart i j hilt hjlt)
                have hri : RInts wj (Lt wj.heap.size) (.slice Ai t.C[i].length cci) t.C[i] := by
                  have h1 := Hui0.out
                  exact RInts.stable.up h1 Hbel2.out
                have hrj := RInts.stable.up huj Hbel2.out
                have Hs := Lib.hid (Same_any (.slice (some ⟨wj.heap.size, 0, none⟩) 1 1) (.slice (some ⟨wj.heap.size + 1, 0, none⟩) 1 1) [t.C[i]] [t.C[j]] ((wj.alloc (.cells #[.slice Ai t.C[i].length cci] 27)).alloc (.cells #[.slice Aj t.C[j].length ccj] 27)) (RIntss.stable.up (single_reads (t := 27) rfl hri) (below_alloc _ _)) (single_reads (t := 27) (by simp) (RInts.stable.up hrj (below_alloc wj (.cells #[.slice Ai t.C[i].length cci] 27)))))
                have Hbn := Lib.hid ((Hbel2.out.alloc Hbel2.out.size (.cells #[.slice Ai t.C[i].length cci] 27)).alloc (by have := Hbel2.out.size; simp; omega) (.cells #[.slice Aj t.C[j].length ccj] 27))
                clear hcellj huj hri hrj hci2 hui2
                go_wp2_with (go_at_call 13; (with_reducible refine Hs.out.mono ?_); rintro e w6 ⟨rfl, dq, rfl⟩; rw [Hd.out])
                go_roundw
                case rel => exact ⟨j + 1, by omega, by go_num, below_drewN Hbn.out dq⟩
                case measure => simp [intOf]; omega
              · obtain rfl : j = i := by omega
                go_wp2
                go_roundw
                case rel => exact ⟨j + 1, by omega, by go_num, Hbel2.out⟩
                case measure => simp [intOf]; omega
          · have e0 : ((t.C[i].length : Int) == 0) = false := by simp; exact fun h => h0 (by rw [h]; rfl)
            clear h0
            go_wp2
            go_loopw [93] (fun sv wr => ∃ j : Nat, j ≤ i ∧ sv = .int .i64 j ∧ Below w7.heap.size w7 wr) (fun sv _ => i - (intOf sv).toNat)
            case atStart => exact ⟨0, Nat.zero_le _, rfl, Hbel.out⟩
            case round =>
              obtain ⟨wj, rfl⟩ : ∃ w0 : World, w0 = wr := ⟨_, rfl⟩
              obtain ⟨j, hjle, rfl, hbel2⟩ := hrel
              have Hbel2 := Lib.hid hbel2
              clear hbel2
              by_cases hjlt : j < i
              · obtain ⟨uj, hcellj, huj⟩ := HatC.out.again (show j < t.C.length by omega)
                have hcj := (Hbel2.out.cell (p := ⟨bi, offi + j, none⟩) hbi).trans hcellj
                obtain ⟨Aj, ccj, rfl⟩ := huj.shape
                obtain ⟨_, hci2, hui2⟩ := HatC.out.again hilt
                have Hd := Lib.hid (show decide ([t.C[i]] = [t.C[j]]) = false by simp; exact Hend.out.apart i j hilt hjlt)
                have hri : RInts wj (Lt wj.heap.size) (.slice Ai t.C[i].length cci) t.C[i] := by
                  have h1 := Hui0.out
                  exact RInts.stable.up h1 Hbel2.out
                have hrj := RInts.stable.up huj Hbel2.out
                have Hs := Lib.hid (Same_any (.slice (some ⟨wj.heap.size, 0, none⟩) 1 1) (.slice (some ⟨wj.heap.size + 1, 0, none⟩) 1 1) [t.C[i]] [t.C[j]] ((wj.alloc (.cells #[.slice Ai t.C[i].length cci] 27)).alloc (.cells #[.slice Aj t.C[j].length ccj] 27)) (RIntss.stable.up (single_reads (t := 27) rfl hri) (below_alloc _ _)) (single_reads (t := 27) (by simp) (RInts.stable.up hrj (below_alloc wj (.cells #[.slice Ai t.C[i].length cci] 27)))))
                have Hbn := Lib.hid ((Hbel2.out.alloc Hbel2.out.size (.cells #[.slice Ai t.C[i].length cci] 27)).alloc (by have := Hbel2.out.size; simp; omega) (.cells #[.slice Aj t.C[j].length ccj] 27))
                clear hcellj huj hri hrj hci2 hui2
                go_wp2_with (go_at_call 13; (with_reducible refine Hs.out.mono ?_); rintro e w6 ⟨rfl, dq, rfl⟩; rw [Hd.out])
                go_roundw
                case rel => exact ⟨j + 1, by omega, by go_num, below_drewN Hbn.out dq⟩
                case measure => simp [intOf]; omega
              · obtain rfl : j = i := by omega
                go_wp2
                go_roundw
                case rel => exact ⟨j + 1, by omega, by go_num, Hbel2.out⟩
                case measure => simp [intOf]; omega
        · obtain rfl : i = t.C.length := by omega
          go_wp2_with (go_at_call 9; refine (lives_any _).mono ?_; rintro e w8 ⟨rfl, hb8⟩)
          go_ret
          exact ⟨rfl, Hb7.out.trans ((Hbel.out.mono Hb7.out.size).trans (hb8.mono (by have := Hb7.out.size; have := Hbel.out.size; omega)))⟩
end Go.Proofs.Ytdofiipckcfopaa
