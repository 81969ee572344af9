/- The law CnfMeans, walked. -/
import Derived.Test.YtlaihjhkghbfkaaCnfM1
namespace Go.Proofs.Ytlaihjhkghbfkaa
open Go.RowKit Go.Sort

theorem tk_succ_true {t : List Bool} {k : Nat} (h : k < t.length) (hv : t[k] = true) : trues (t.take (k + 1)) = trues (t.take k) ++ [(k : Int)] := by rw [trues_succ h, hv]; rfl
theorem tk_succ_false {t : List Bool} {k : Nat} (h : k < t.length) (hv : t[k] = false) : trues (t.take (k + 1)) = trues (t.take k) := by rw [trues_succ h, hv]; simp
theorem tk_succ_ge {t : List Bool} {k : Nat} (h : t.length ≤ k) : trues (t.take (k + 1)) = trues (t.take k) := by rw [List.take_of_length_le (by omega), List.take_of_length_le h]
theorem notLight {n0 : Nat} {r : Int} {wss : List (List (List Int))} {k : Nat} (h : ¬ (lightB n0 wss = true ∧ mayN n0 r wss = 0 ∧ k ≤ 60)) :
    lightB n0 wss = false ∨ (lightB n0 wss = true ∧ ((mayN n0 r wss : Nat) : Int) = 1) ∨ (lightB n0 wss = true ∧ ((mayN n0 r wss : Nat) : Int) = 0 ∧ 60 < k) := by
  cases hl : lightB n0 wss with
  | false => exact .inl rfl
  | true =>
    by_cases hm : mayN n0 r wss = 0
    · refine .inr (.inr ⟨rfl, by rw [hm]; rfl, ?_⟩)
      rcases Nat.lt_or_ge 60 k with h1 | h1
      · exact h1
      · exact absurd ⟨hl, hm, h1⟩ h
    · exact .inr (.inl ⟨rfl, by rw [light_may hl hm]; rfl⟩)

set_option maxRecDepth 100000 in
set_option maxHeartbeats 4000000 in
theorem walk_CnfMeans (W : World) (v0 v1 : Value) (a0 : Arg Try.prog W 25 v0) (a1 : Arg Try.prog W 40 v1) :
    Calls Try.prog 6 #[v0, v1] W fun e W' => e = .returned (.bool true) ∧ Below W.heap.size W W' := by
  obtain ⟨s0, s1, r, items, wss, rfl, h0, h1, hr1, hr2⟩ := arg_deal a0
  obtain ⟨ts, h2⟩ := arg_slice a1 Try.underlying40 reads1_bools
  have H0 := Lib.hid h0; have H1 := Lib.hid h1; have H2 := Lib.hid h2
  obtain ⟨A0, c0, rfl⟩ := h0.shape
  obtain ⟨A1, c1, rfl⟩ := h1.shape
  obtain ⟨A2, c2, rfl⟩ := h2.shape
  clear h0 h1 h2 a0 a1 hr1 hr2
  by_cases hl : lightB items.length wss = true ∧ mayN items.length r wss = 0 ∧ ts.length ≤ 60
  case neg =>
    have hcase := notLight hl
    clear hl
    rcases hcase with hl | ⟨hl, hm⟩ | ⟨hl, hm, hn⟩
    · have Hl := Lib.hid hl; clear hl
      go_enter Try.func6, Try.ntmps6
      go_wp2_with (first
        | (go_at_call 9; refine (light_any _ _ _ _ _ wss _ (RIntsss.stable.up H1.out (below_alloc _ _))).mono ?_; rintro e w1 ⟨rfl, hb⟩; rw [Hl.out])
        | (go_at_call 10; refine (lives_any _).mono ?_; rintro e w2 ⟨rfl, hb2⟩))
      go_ret
      exact ⟨rfl, (below_alloc _ _).trans ((hb.mono (by simp)).trans (hb2.mono (by have := hb.size; simp at this; omega)))⟩
    all_goals
      have Hl := Lib.hid hl; clear hl
      have Hm := Lib.hid hm; clear hm
      go_enter Try.func6, Try.ntmps6
      go_wp2_with (first
        | (go_at_call 9
           refine (light_any _ _ _ _ _ wss _ (RIntsss.stable.up H1.out (below_alloc _ _))).mono ?_
           rintro e w1 ⟨rfl, hb⟩
           rw [Hl.out]
           obtain ⟨hx0, hx1, hx2⟩ := box3 hb
           have Hb1 := Lib.hid ((below_alloc _ _).trans (hb.mono (by simp)))
           have hz1 : W.heap.size < w1.heap.size := (by have := hb.size; simp at this; omega)
           clear hb)
        | (go_at_call 12; refine (refMay_any _ _ _ _ _ wss _ (RIntsss.stable.up H1.out Hb1.out)).mono ?_; rintro e w3 ⟨rfl, hb3⟩; rw [Hm.out]; have Hb3 := Lib.hid (Hb1.out.trans (hb3.mono (Nat.le_of_lt hz1))); clear hb3)
        | (go_at_call 10; refine (lives_any _).mono ?_; rintro e w2 ⟨rfl, hb2⟩))
      go_ret
      exact ⟨rfl, Hb3.out.trans (hb2.mono Hb3.out.size)⟩
  case pos =>
    obtain ⟨hl, hm, hn⟩ := hl
    have hlen := light_len hl hm
    have He := Lib.hid (show encR items wss r = ((items.length : Int), allCls items wss r, 0) by simp [encR, hm]; omega)
    have Hl := Lib.hid hl
    have Hlw := Lib.hid (lightW_of hl)
    have hn0 := lightB_n0 hl
    have Hm := Lib.hid (show ((mayN items.length r wss : Nat) : Int) = 0 by rw [hm]; rfl)
    have Hmean := Lib.hid (means_eq (t := ts) hm)
    clear hl hm hlen
    obtain ⟨cls, hcls⟩ : ∃ cls, cls = allCls items wss r := ⟨_, rfl⟩
    rw [← hcls] at He Hmean
    clear hcls
    go_enter Try.func6, Try.ntmps6
    go_wp2_with (first
        | (go_at_call 9
           refine (light_any _ _ _ _ _ wss _ (RIntsss.stable.up H1.out (below_alloc _ _))).mono ?_
           rintro e w1 ⟨rfl, hb⟩
           rw [Hl.out]
           obtain ⟨hx0, hx1, hx2⟩ := box3 hb
           have Hb1 := Lib.hid ((below_alloc _ _).trans (hb.mono (by simp)))
           have hz1 : W.heap.size < w1.heap.size := (by have := hb.size; simp at this; omega)
           clear hb)
        | (go_at_call 12
           refine (refMay_any _ _ _ _ _ wss _ (RIntsss.stable.up H1.out Hb1.out)).mono ?_
           rintro e w2 ⟨rfl, hb2⟩
           rw [Hm.out]
           have hy0 := (hb2.cell (p := ⟨W.heap.size, 0, none⟩) hz1).trans hx0
           have hy1 := (hb2.cell (p := ⟨W.heap.size, 1, none⟩) hz1).trans hx1
           have hy2 := (hb2.cell (p := ⟨W.heap.size, 2, none⟩) hz1).trans hx2
           have Hb2 := Lib.hid (Hb1.out.trans (hb2.mono (Nat.le_of_lt hz1)))
           have hz2 : W.heap.size < w2.heap.size := Nat.lt_of_lt_of_le hz1 hb2.size
           clear hb2 hx0 hx1 hx2)
        | (go_at_call 13
           refine (Encode_any _ _ r items wss _ (RItems.stable.up H0.out Hb2.out) (RIntsss.stable.up H1.out Hb2.out) Hlw.out).mono ?_
           intro e w3 hp
           rw [EncodePost, He.out] at hp
           obtain ⟨s, rfl, hs, hb3⟩ := hp
           obtain ⟨As, cs, rfl⟩ := hs.shape
           have hu0 := (hb3.cell (p := ⟨W.heap.size, 0, none⟩) hz2).trans hy0
           have hu1 := (hb3.cell (p := ⟨W.heap.size, 1, none⟩) hz2).trans hy1
           have hu2 := (hb3.cell (p := ⟨W.heap.size, 2, none⟩) hz2).trans hy2
           have hz3 : W.heap.size < w3.heap.size := Nat.lt_of_lt_of_le hz2 hb3.size
           have Hb3 := Lib.hid (Hb2.out.trans (hb3.mono (Nat.le_of_lt hz2)))
           have Hs := Lib.hid hs
           clear hy0 hy1 hy2 hs hb3))
    have hbe := below_alloc w3 (.cells #[.int .i64 (items.length : Int), .slice As cls.length cs] 34)
    have hq1 : (w3.alloc (.cells #[.int .i64 (items.length : Int), .slice As cls.length cs] 34)).cell? ⟨w3.heap.size, 1, none⟩ = some (.slice As cls.length cs) := by simp [go_sem]
    have hv0 := (hbe.cell (p := ⟨W.heap.size, 0, none⟩) hz3).trans hu0
    have hv1 := (hbe.cell (p := ⟨W.heap.size, 1, none⟩) hz3).trans hu1
    have hv2 := (hbe.cell (p := ⟨W.heap.size, 2, none⟩) hz3).trans hu2
    have hz4 : w3.heap.size < (w3.alloc (.cells #[.int .i64 (items.length : Int), .slice As cls.length cs] 34)).heap.size := by simp
    have Hs4 := Lib.hid (RIntss.stable.up Hs.out hbe)
    have Hb4 := Lib.hid (Hb3.out.alloc Hb3.out.size (.cells #[.int .i64 (items.length : Int), .slice As cls.length cs] 34))
    have hzz : W.heap.size < (w3.alloc (.cells #[.int .i64 (items.length : Int), .slice As cls.length cs] 34)).heap.size := by omega
    clear hbe hu0 hu1 hu2 hz1 hz2 hz3 Hs Hb1 Hb2 Hb3 Hl Hlw He Hm
    generalize w3.alloc (.cells #[.int .i64 (items.length : Int), .slice As cls.length cs] 34) = w4 at *
    obtain ⟨A2', c2', e2, hm2, hat2⟩ := H2.out.open_
    simp only [Value.slice.injEq] at e2
    obtain ⟨rfl, _, rfl⟩ := e2
    have Hat2 := Lib.hid (hat2.agree RBool.stable (ag_of_below Hb4.out) fun _ h => h)
    clear hat2
    go_loopw [33, 7] (fun sv out wr => ∃ k : Nat, k ≤ items.length ∧ sv = .int .i64 k ∧ Below w4.heap.size w4 wr ∧ wr.ownsRow w4.heap.size 3 1 out (trues (ts.take k)).length ((trues (ts.take k)).map (Value.int .i64))) (fun sv _ _ => items.length - (intOf sv).toNat)
    case atStart => exact ⟨0, Nat.zero_le _, rfl, Below.refl _ _, by simpa [trues, truesFrom] using World.ownsRow_nil _ _ _ _⟩
    case round =>
      obtain ⟨k, hkle, rfl, hbel, hown⟩ := hrel
      have Hbel := Lib.hid hbel
      have Hown := Lib.hid hown
      clear hbel hown
      by_cases hklt : k < items.length
      · by_cases hkt : k < ts.length
        · obtain ⟨bk, offk, uk, rfl, hbk, hcellk, huk⟩ := Hat2.out.lt_ hkt
          obtain rfl := huk
          have hcell := (Hbel.out.cell (p := ⟨bk, offk + k, none⟩) (Nat.lt_of_lt_of_le hbk Hb4.out.size)).trans hcellk
          have htl : (trues (ts.take k)).length ≤ k := by have := trues_length_le (ts.take k); simp at this; omega
          clear hcellk
          cases hmb : ts[k] with
          | true =>
            rw [hmb] at hcell
            have Hs' := Lib.hid (tk_succ_true hkt hmb)
            clear hmb
            obtain ⟨Ao, ko, rfl⟩ := own_shape Hown.out
            go_wp2_with (at_builtin; refine wpList_push rfl _ _ _ rfl eInt (v := .slice Ao (trues (ts.take k)).length ko) rfl (Hown.out.alloc _) wr.heap.size (.int .i64 k) rfl (by simp [go_sem]) rfl (by omega) (by have := Hbel.out.size; simp; omega) ?_; intro v1 w5 hown1 hg1 hat1)
            go_roundw
            case rel =>
              refine ⟨k + 1, by omega, by go_num, ?_, ?_⟩
              · exact (Hbel.out.alloc Hbel.out.size _).grown hg1 (by have := Hbel.out.size; simp; omega) (fun i hi => (Hown.out.lt i hi).1)
              · rw [Hs'.out, ← map_append_int, List.length_append]; exact hown1
            case measure => simp [intOf]; omega
          | false =>
            rw [hmb] at hcell
            have Hs' := Lib.hid (tk_succ_false hkt hmb)
            clear hmb
            go_wp2
            go_roundw
            case rel => exact ⟨k + 1, by omega, by go_num, Hbel.out, by rw [Hs'.out]; exact Hown.out⟩
            case measure => simp [intOf]; omega
        · have Hs' := Lib.hid (tk_succ_ge (t := ts) (k := k) (by omega))
          go_wp2
          go_roundw
          case rel => exact ⟨k + 1, by omega, by go_num, Hbel.out, by rw [Hs'.out]; exact Hown.out⟩
          case measure => simp [intOf]; omega
      · obtain rfl : k = items.length := by omega
        have hgot := ints_of_own (S := Lt wr.heap.size) Hown.out fun g hg => (Hown.out.lt g hg).2
        obtain ⟨Ao, ko, rfl⟩ := own_shape Hown.out
        have Hgot := Lib.hid hgot
        have Hbw := Lib.hid (Hb4.out.trans (Hbel.out.mono Hb4.out.size))
        have hy0 := fun d os => cell_regrown ((Hbel.out.cell (p := ⟨W.heap.size, 0, none⟩) hzz).trans hv0) d os
        have hy1 := fun d os => cell_regrown ((Hbel.out.cell (p := ⟨W.heap.size, 1, none⟩) hzz).trans hv1) d os
        have hy2 := fun d os => cell_regrown ((Hbel.out.cell (p := ⟨W.heap.size, 2, none⟩) hzz).trans hv2) d os
        have hy3 := fun d os => cell_regrown ((Hbel.out.cell (p := ⟨w3.heap.size, 1, none⟩) hz4).trans hq1) d os
        have Hs5 := Lib.hid (RIntss.stable.up Hs4.out Hbel.out)
        have Ht5 := Lib.hid (RBools.stable.up H2.out Hbw.out)
        have H05 := Lib.hid (RItems.stable.up H0.out Hbw.out)
        have H15 := Lib.hid (RIntsss.stable.up H1.out Hbw.out)
        have Hc1 := Lib.hid fun d os => Holds_any (.slice As cls.length cs) (.slice A2 ts.length c2) cls ts (grow (redrawn wr d) os) (RIntss.stable.up Hs5.out (below_regrown wr d os)) (RBools.stable.up Ht5.out (below_regrown wr d os))
        have Hc2 := Lib.hid fun d os => Right_any (.slice A0 items.length c0) (.slice A1 wss.length c1) (.slice Ao (trues (ts.take items.length)).length ko) r items wss (trues (ts.take items.length)) (grow (redrawn wr d) os) (RItems.stable.up H05.out (below_regrown wr d os)) (RIntsss.stable.up H15.out (below_regrown wr d os)) (RInts.stable.up Hgot.out (below_regrown wr d os))
        rw [← Hmean.out] at Hc2
        generalize holdsI cls ts = hI at Hc1 Hc2
        clear hgot hv0 hv1 hv2 hq1 Hat2 H0 H1 H2 hklt hkle
        go_wp2
        refine wp_region_quiet_below (by kernel_rfl) (by kernel_rfl) ?_
        repeat (quiet_step (first
          | (go_at_call 19; exact Calls.regrown_of ((Hc1.out _ _).mono fun _ _ h => ⟨h.1, h.2 ▸ Below.refl _ _⟩))
          | (go_at_call 17; exact Calls.regrown_of (Hc2.out _ _))
          | (go_at_call 10; exact Calls.regrown_of (lives_any _))))
        refine wpQuiet_nil ?_
        intro _ hw'
        obtain ⟨⟨dq, osq⟩, hw''⟩ := hw'
        subst hw''
        go_wp2
        go_ret
        exact ⟨rfl, Hbw.out.trans ((below_regrown wr dq osq).mono Hbw.out.size)⟩
end Go.Proofs.Ytlaihjhkghbfkaa
