/- DimacsAnswers: the law, walked. -/
import Derived.Lib.QuietBelow
import Derived.Test.YtgfbmidpiamkhaaDoorQAnP3
import Derived.Test.YtgfbmidpiamkhaaDoorQDiK2
namespace Go.Proofs.YtgfbmidpiamkhaaDoor
open Go.RowKit
open C01 D28 Go.Sort

/-- the answer of a text: both ways tell the same -/
theorem ans_both (a : Bs) (ha : a.length ≤ 2000) : ∃ (E c n : Int) (T : List Bool), ((c = 0 ∧ n = 0) ∨ (c = 1 ∧ 0 < n)) ∧
    (∀ m w, MaxAt m w → Calls Tryd.prog 19 #[sv a] w fun e w' => ∃ v, e = .returned (.tuple #[.agg #[.int .i64 E, v, .slice none 0 0, .int .i64 0], .int .i64 c, .int .i64 n]) ∧ RBools w' (Lt w'.heap.size) v T ∧ Below w.heap.size w w') ∧
    (∀ w, Calls Tryd.prog 20 #[sv a] w fun e w' => ∃ v, e = .returned (.tuple #[.agg #[.int .i64 E, v, .slice none 0 0, .int .i64 0], .int .i64 n]) ∧ RBools w' (Lt w'.heap.size) v T ∧ Below w.heap.size w w') := by
  have hP := fun m w (hm : MaxAt m w) => ParseAnswer_any a m w hm (by omega)
  have hR := fun w => refParseAnswer_any a w ha
  unfold AnsPost at hP
  unfold RefAnsPost at hR
  have hn : ∀ n, aR a = (none, n) → 0 < n := by
    intro n h
    unfold aR at h
    split at h
    · split at h
      · simp only [Prod.mk.injEq, true_and] at h
        rw [← h]; unfold endOf; omega
      · simp at h
    · rename_i h2
      simp only [Prod.mk.injEq, true_and] at h
      obtain ⟨x, hx, e⟩ := linesA_at h2
      have := lines_ge hx
      omega
  have hn0 : ∀ p n, aR a = (some p, n) → n = 0 := by
    intro p n h
    unfold aR at h
    split at h
    · split at h
      · simp at h
      · simp only [Prod.mk.injEq] at h; exact h.2.symm
    · simp at h
  rcases hr : aR a with ⟨_ | ⟨E, T⟩, n⟩
  · have := hn n hr
    refine ⟨0, 1, (n : Nat), [], .inr ⟨rfl, by omega⟩, fun m w hm => (hP m w hm).mono fun e w' h => ?_, fun w => (hR w).mono fun e w' h => ?_⟩
    · rw [hr] at h
      exact ⟨.slice none 0 0, h.2, RSl.nil_ _ _ _, h.1⟩
    · rw [hr] at h
      exact ⟨.slice none 0 0, h.2, RSl.nil_ _ _ _, h.1⟩
  · refine ⟨(E : Nat), 0, 0, T, .inl ⟨rfl, rfl⟩, fun m w hm => (hP m w hm).mono fun e w' h => ?_, fun w => (hR w).mono fun e w' h => ?_⟩
    · rw [hr] at h
      obtain ⟨h1, v, e, h3⟩ := h
      exact ⟨v, e, h3, h1⟩
    · rw [hr] at h
      obtain ⟨h1, v, e, h3⟩ := h
      exact ⟨v, e, h3, h1⟩
set_option maxRecDepth 100000 in
set_option maxHeartbeats 8000000 in
theorem walk_DimacsAnswers (m : Int) (W : World) (hm : MaxAt m W) (v0 v1 : Value) (a0 : Arg Tryd.prog W 9 v0) (a1 : Arg Tryd.prog W 47 v1) : Calls Tryd.prog 5 #[v0, v1] W fun e W' => e = .returned (.bool true) ∧ Below W.heap.size W W' := by
  obtain ⟨s, rfl⟩ := arg_string a0
  obtain ⟨AE, vT, vP, AC, T, L, rfl, hT, hL, hE1, hE2⟩ := arg_answer a1
  clear a0 a1
  obtain ⟨b, hb⟩ : ∃ b, b = s.data.toList := ⟨_, rfl⟩
  obtain rfl : s = bz b := by rw [hb]; exact bz_of s
  clear hb
  have HC := Lib.hid (fun w => cut_any b w)
  obtain ⟨a, ha⟩ : ∃ a, a = b.take 2000 := ⟨_, rfl⟩
  have hal : a.length ≤ 2000 := by rw [ha, List.length_take]; omega
  rw [← ha] at HC
  clear ha
  obtain ⟨E, c, n, T1, hway, hP, hR⟩ := ans_both a hal
  obtain ⟨AT, cT, rfl, hmT, hatT⟩ := RSl.open_ hT
  obtain ⟨AL, cL, rfl, hmL, hatL⟩ := RSl.open_ hL
  obtain ⟨w1, hw1⟩ : ∃ w1, w1 = W.alloc (.cells #[.int .i64 AE, .slice AT T.length cT, (.slice AL L.length cL), .int .i64 AC] 47) := ⟨_, rfl⟩
  have HB1 := Lib.hid (show Below W.heap.size W w1 by rw [hw1]; exact below_alloc _ _)
  have HX := Lib.hid (show w1.heap[W.heap.size]? = some (.cells #[.int .i64 AE, .slice AT T.length cT, (.slice AL L.length cL), .int .i64 AC] 47 (0, 0)) by rw [hw1]; exact heap_alloc_new _ _)
  have HW1 := Lib.hid hw1
  have HP := Lib.hid (hP m w1 (hm.up HB1.out))
  have HR := Lib.hid hR
  have HM := Lib.hid hm
  have HT := Lib.hid hT
  have HLi := Lib.hid (fun w (h : MaxAt m w) => lives_any m w h)
  clear hP hR hm hal hw1 hT hL hatT hatL
  go_enter Tryd.func5, Tryd.ntmps5
  go_upto_region 1 with fail
  rw [← HW1.out]
  go_upto_region 3 with (first
    | (go_at_call 13; refine (HC.out _).mono ?_; rintro e w1 ⟨rfl, rfl⟩)
    | (go_at_call 19; refine HP.out.mono ?_; rintro e w2 ⟨va, rfl, hva, hb2⟩; have HVa := Lib.hid hva; have HB2 := Lib.hid hb2; obtain ⟨Aa, ca, rfl, hma, -⟩ := RSl.open_ hva; clear hva hb2))
  obtain ⟨w3, hw3⟩ : ∃ w3, w3 = w2.alloc (.cells #[.int .i64 E, .slice Aa T1.length ca, .slice none 0 0, .int .i64 0] 47) := ⟨_, rfl⟩
  have hb3 : Below w2.heap.size w2 w3 := by rw [hw3]; exact below_alloc _ _
  have HX3 := Lib.hid (show w3.heap[w2.heap.size]? = some (.cells #[.int .i64 E, .slice Aa T1.length ca, .slice none 0 0, .int .i64 0] 47 (0, 0)) by rw [hw3]; exact heap_alloc_new _ _)
  have HB3 := Lib.hid hb3
  rw [← hw3]
  clear hw3 hb3
  go_upto_region 4 with (go_at_call 20; refine (HR.out _).mono ?_; rintro e w4 ⟨vb, rfl, hvb, hb4⟩; have HVb := Lib.hid hvb; have HB4 := Lib.hid hb4; obtain ⟨Ab, cb, rfl, hmb, -⟩ := RSl.open_ hvb; clear hvb hb4)
  obtain ⟨w5, hw5⟩ : ∃ w5, w5 = w4.alloc (.cells #[.int .i64 E, .slice Ab T1.length cb, .slice none 0 0, .int .i64 0] 47) := ⟨_, rfl⟩
  have hb5 : Below w4.heap.size w4 w5 := by rw [hw5]; exact below_alloc _ _
  have HX5 := Lib.hid (show w5.heap[w4.heap.size]? = some (.cells #[.int .i64 E, .slice Ab T1.length cb, .slice none 0 0, .int .i64 0] 47 (0, 0)) by rw [hw5]; exact heap_alloc_new _ _)
  have HB5 := Lib.hid hb5
  rw [← hw5]
  have s1 := HB1.out.size
  have s2 := HB2.out.size
  have s3 := HB3.out.size
  have s4 := HB4.out.size
  have s5 := HB5.out.size
  have HBt := Lib.hid (((((HB1.out.trans (HB2.out.mono s1)).trans (HB3.out.mono (Nat.le_trans s1 s2))).trans (HB4.out.mono (by omega))).trans (HB5.out.mono (by omega))))
  have r3 := (HB5.out.block w2.heap.size (by have := (Array.getElem?_eq_some_iff.1 HX3.out).1; omega)).trans ((HB4.out.block w2.heap.size (Array.getElem?_eq_some_iff.1 HX3.out).1).trans HX3.out)
  have r5 := HX5.out
  have hWl := (Array.getElem?_eq_some_iff.1 HX.out).1
  have r1 := (HB5.out.block W.heap.size (by omega)).trans ((HB4.out.block W.heap.size (by omega)).trans ((HB3.out.block W.heap.size (by omega)).trans ((HB2.out.block W.heap.size hWl).trans HX.out)))
  have a0 := cell_of_row _ _ 0 _ _ _ r3
  have a1 := cell_of_row _ _ 1 _ _ _ r3
  have a2 := cell_of_row _ _ 2 _ _ _ r3
  have a3 := cell_of_row _ _ 3 _ _ _ r3
  have b0 := cell_of_row _ _ 0 _ _ _ r5
  have b1 := cell_of_row _ _ 1 _ _ _ r5
  have b2 := cell_of_row _ _ 2 _ _ _ r5
  have b3 := cell_of_row _ _ 3 _ _ _ r5
  have HRa := Lib.hid (RBools.stable.up (RBools.stable.up (RBools.stable.up HVa.out HB3.out) HB4.out) HB5.out)
  have HRb := Lib.hid (RBools.stable.up HVb.out HB5.out)
  have HS := Lib.hid (sameA_any E _ _ T1 w5 HRa.out HRb.out (fun b h => h) (fun b h => h))
  have HR1 := Lib.hid r1
  have HT5 := Lib.hid (RBools.stable.up HT.out HBt.out)
  have HM5 := Lib.hid (HM.out.up HBt.out)
  have hWs : W.heap.size < w5.heap.size := by omega
  clear hw5 hb5 s1 s2 s3 s4 s5 r3 r5 r1 hWl
  have hnn : (n != n) = false := by simp
  have key : ∀ (w6 : World), Below w5.heap.size w5 w6 → True := fun _ _ => trivial
  have HFin := Lib.hid (show ∀ w6, Below w5.heap.size w5 w6 → Hid (∀ dd os, (grow (redrawn w6 dd) os).cell? ⟨W.heap.size, 0, none⟩ = some (.int .i64 AE) ∧ (grow (redrawn w6 dd) os).cell? ⟨W.heap.size, 1, none⟩ = some (.slice AT T.length cT) ∧ (grow (redrawn w6 dd) os).cell? ⟨W.heap.size, 2, none⟩ = some (.slice AL L.length cL) ∧ (grow (redrawn w6 dd) os).cell? ⟨W.heap.size, 3, none⟩ = some (.int .i64 AC) ∧ MaxAt m (grow (redrawn w6 dd) os) ∧ RBools (grow (redrawn w6 dd) os) (Lt (grow (redrawn w6 dd) os).heap.size) (.slice AT T.length cT) T ∧ Below W.heap.size W (grow (redrawn w6 dd) os)) from fun w6 hb6 => Lib.hid fun dd os => by
    have hb7 : Below w5.heap.size w5 (grow (redrawn w6 dd) os) := hb6.trans ((below_regrown w6 dd os).mono hb6.size)
    have r1 := (hb7.block W.heap.size hWs).trans HR1.out
    exact ⟨cell_of_row _ _ 0 _ _ _ r1, cell_of_row _ _ 1 _ _ _ r1, cell_of_row _ _ 2 _ _ _ r1, cell_of_row _ _ 3 _ _ _ r1, HM5.out.up hb7, RBools.stable.up HT5.out hb7, HBt.out.trans (hb7.mono HBt.out.size)⟩)
  clear key HC HP HR HX HX3 HX5 HVa HVb HB1 HB2 HB3 HB4 HB5 HW1 HRa HRb
  rcases hway with ⟨rfl, rfl⟩ | ⟨rfl, hn⟩
  · go_upto_region 6 with (go_at_call 21; refine HS.out.mono ?_; rintro e w6 ⟨rfl, hb6⟩; have HF := Lib.hid (HFin.out w6 hb6); have HB6 := Lib.hid hb6; clear hb6)
    obtain hr6 := fun dd os => HF.out.out dd os
    have q0 := fun dd os => (hr6 dd os).1
    have q1 := fun dd os => (hr6 dd os).2.1
    have q2 := fun dd os => (hr6 dd os).2.2.1
    have q3 := fun dd os => (hr6 dd os).2.2.2.1
    have HM6 := Lib.hid (fun dd os => (hr6 dd os).2.2.2.2.1)
    have HT6 := Lib.hid (fun dd os => (hr6 dd os).2.2.2.2.2.1)
    have HW6 := Lib.hid (fun dd os => (hr6 dd os).2.2.2.2.2.2)
    clear hr6 HF HFin a0 a1 a2 a3 b0 b1 b2 b3 HS
    by_cases h300 : 300 < T.length
    · have hlen : (300 : Int) < (T.length : Int) := by omega
      refine wp_region_quiet_below (by kernel_rfl) (by kernel_rfl) ?_
      repeat (quiet_step (first | (go_at_call 9; with_reducible exact Calls.regrown_of (HLi.out _ (HM6.out _ _)))))
      refine wpQuiet_nil ?_
      intro _ hw'
      obtain ⟨⟨dq, osq⟩, hw''⟩ := hw'
      subst hw''
      go_wp2
      go_ret
      exact ⟨rfl, HW6.out _ _⟩
    · have hlen : decide ((300 : Int) < (T.length : Int)) = false := decide_eq_false (by omega)
      have HPa := Lib.hid (fun dd os => PrintAnswer_any AE AC (.slice AT T.length cT) (.slice AL L.length cL) T (grow (redrawn w6 dd) os) (HT6.out dd os) (by omega))
      have HPb := Lib.hid (fun dd os => refPrintAnswer_any AE AC (.slice AT T.length cT) (.slice AL L.length cL) T (grow (redrawn w6 dd) os) (HT6.out dd os) (by omega))
      have hpp : ((bz (printA AE T)).toList == (bz (printA AE T)).toList) = true := by simp
      refine wp_region_quiet_below (by kernel_rfl) (by kernel_rfl) ?_
      repeat (quiet_step (first
        | (go_at_call 22; with_reducible exact Calls.regrown_of (HPa.out _ _))
        | (go_at_call 23; with_reducible exact Calls.regrown_of (HPb.out _ _))
        | (go_at_call 9; with_reducible exact Calls.regrown_of (HLi.out _ (HM6.out _ _)))))
      refine wpQuiet_nil ?_
      intro _ hw'
      obtain ⟨⟨dq, osq⟩, hw''⟩ := hw'
      subst hw''
      go_wp2
      go_ret
      exact ⟨rfl, HW6.out _ _⟩
  · have hn0 : (n == 0) = false := by rw [beq_eq_false_iff_ne]; omega
    go_upto_region 6 with (go_at_call 21; refine HS.out.mono ?_; rintro e w6 ⟨rfl, hb6⟩; have HF := Lib.hid (HFin.out w6 hb6); have HB6 := Lib.hid hb6; clear hb6)
    obtain hr6 := fun dd os => HF.out.out dd os
    have q0 := fun dd os => (hr6 dd os).1
    have q1 := fun dd os => (hr6 dd os).2.1
    have q2 := fun dd os => (hr6 dd os).2.2.1
    have q3 := fun dd os => (hr6 dd os).2.2.2.1
    have HM6 := Lib.hid (fun dd os => (hr6 dd os).2.2.2.2.1)
    have HT6 := Lib.hid (fun dd os => (hr6 dd os).2.2.2.2.2.1)
    have HW6 := Lib.hid (fun dd os => (hr6 dd os).2.2.2.2.2.2)
    clear hr6 HF HFin a0 a1 a2 a3 b0 b1 b2 b3 HS
    by_cases h300 : 300 < T.length
    · have hlen : (300 : Int) < (T.length : Int) := by omega
      refine wp_region_quiet_below (by kernel_rfl) (by kernel_rfl) ?_
      repeat (quiet_step (first | (go_at_call 9; with_reducible exact Calls.regrown_of (HLi.out _ (HM6.out _ _)))))
      refine wpQuiet_nil ?_
      intro _ hw'
      obtain ⟨⟨dq, osq⟩, hw''⟩ := hw'
      subst hw''
      go_wp2
      go_ret
      exact ⟨rfl, HW6.out _ _⟩
    · have hlen : decide ((300 : Int) < (T.length : Int)) = false := decide_eq_false (by omega)
      have HPa := Lib.hid (fun dd os => PrintAnswer_any AE AC (.slice AT T.length cT) (.slice AL L.length cL) T (grow (redrawn w6 dd) os) (HT6.out dd os) (by omega))
      have HPb := Lib.hid (fun dd os => refPrintAnswer_any AE AC (.slice AT T.length cT) (.slice AL L.length cL) T (grow (redrawn w6 dd) os) (HT6.out dd os) (by omega))
      have hpp : ((bz (printA AE T)).toList == (bz (printA AE T)).toList) = true := by simp
      refine wp_region_quiet_below (by kernel_rfl) (by kernel_rfl) ?_
      repeat (quiet_step (first
        | (go_at_call 22; with_reducible exact Calls.regrown_of (HPa.out _ _))
        | (go_at_call 23; with_reducible exact Calls.regrown_of (HPb.out _ _))
        | (go_at_call 9; with_reducible exact Calls.regrown_of (HLi.out _ (HM6.out _ _)))))
      refine wpQuiet_nil ?_
      intro _ hw'
      obtain ⟨⟨dq, osq⟩, hw''⟩ := hw'
      subst hw''
      go_wp2
      go_ret
      exact ⟨rfl, HW6.out _ _⟩
end Go.Proofs.YtgfbmidpiamkhaaDoor
