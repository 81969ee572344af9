/- Expand of no table; Known. -/
import Derived.Test.YtpgdioopkcfjdaaPrX9
namespace Go.Proofs.Ytpgdioopkcfjdaa
open Go.RowKit

theorem Known_any {B T R Dn : Nat} {lv : Value} {L U done : PL} (w : World) (ht : TabAt w B T R Dn lv L U done) : Calls Try.prog 16 #[.pointer (some ⟨T, 0, none⟩)] w fun e w' => e = .returned (.int .i64 (wrap64 (done.length : Nat))) ∧ w' = w := by
  obtain ⟨-, -, -, k3, -⟩ := ht.cells
  have H1 := Lib.hid (Load_any T _ w k3)
  have hw : IntKind.i64.wrap (wrap64 (done.length : Nat)) = wrap64 (done.length : Nat) := by rw [IntKind.wrap_i64]; unfold wrap64; omega
  generalize wrap64 (done.length : Nat) = K at *
  clear ht
  go_enter Try.func16, Try.ntmps16
  go_wp2_with (go_at_call 33; with_reducible refine H1.out.mono ?_; rintro e w1 ⟨rfl, rfl⟩)
  go_ret
  exact ⟨rfl, rfl⟩
theorem Known_nil (w : World) : Calls Try.prog 16 #[.pointer none] w fun e w' => e = .returned (.int .i64 0) ∧ w' = w := by
  go_enter Try.func16, Try.ntmps16
  go_wp2
  go_ret
  exact ⟨rfl, rfl⟩
theorem chT_lo {w : World} {B T R Dn : Nat} {lv : Value} {L U done : PL} (h : TabAt w B T R Dn lv L U done) : ∀ k, ChT T Dn k → B ≤ k := by
  rintro k (rfl | rfl)
  · exact h.lo.1
  · exact h.lo.2.2
theorem nilb_start (w : World) (s : Bs) : (((w.alloc (.cells #[.pointer none] 25)).alloc (.cells #[sv s] 9)).alloc (.cells #[sv []] 9)).heap[w.heap.size]? = some (.cells #[.pointer none] 25 (0, 0)) ∧
    (((w.alloc (.cells #[.pointer none] 25)).alloc (.cells #[sv s] 9)).alloc (.cells #[sv []] 9)).heap[w.heap.size + 1]? = some (.cells #[sv s] 9 (0, 0)) ∧
    (((w.alloc (.cells #[.pointer none] 25)).alloc (.cells #[sv s] 9)).alloc (.cells #[sv []] 9)).heap[w.heap.size + 2]? = some (.cells #[sv []] 9 (0, 0)) := by
  have h1 := heap_alloc_new w (.cells #[.pointer none] 25)
  have h2 := heap_alloc_new (w.alloc (.cells #[.pointer none] 25)) (.cells #[sv s] 9)
  have h3 := heap_alloc_new ((w.alloc (.cells #[.pointer none] 25)).alloc (.cells #[sv s] 9)) (.cells #[sv []] 9)
  simp only [World.size_alloc] at h2 h3
  exact ⟨(Below.heap_alloc _ _ _ (by simp; omega)).trans ((Below.heap_alloc _ _ _ (by simp)).trans h1), (Below.heap_alloc _ _ _ (by simp)).trans h2, h3⟩
set_option maxHeartbeats 2000000 in
theorem Expand_nil {m : Int} (s v : Bs) (dn : PL) (w : World) (hm : MaxAt m w) (hs : s.length ≤ 1000000) (hr : expP [] [] s = (.ok v, dn)) :
    Calls Try.prog 13 #[.pointer none, sv s] w fun e w' => e = .returned (.tuple #[sv v, .int .i64 0, sv []]) ∧ Below w.heap.size w w' := by
  have hmf : ∀ (fn : Fn) (first cap : Array Value) (w : World), (Instr.makeFunc fn first cap).run Try.prog w = .ok (.func fn first cap) w := fun _ _ _ _ => rfl
  obtain ⟨w3, hw3⟩ : ∃ w3, w3 = (((w.alloc (.cells #[.pointer none] 25)).alloc (.cells #[sv s] 9)).alloc (.cells #[sv []] 9)) := ⟨_, rfl⟩
  have hb3 : Below w.heap.size w w3 := by rw [hw3]; exact ((below_alloc _ _).alloc (by simp) _).alloc (by simp; omega) _
  have hx3 := nilb_start w s
  rw [← hw3] at hx3
  have hsz3 : w.heap.size + 3 = w3.heap.size := by rw [hw3]; simp
  have HX3 := Lib.hid hx3
  have HB3 := Lib.hid hb3
  have HN := Lib.hid (New_any (.slice none 0 0) [] w3 ⟨none, 0, rfl, Nat.le_refl _, Nat.zero_le _, fun h => absurd h (by simp)⟩ (by simp))
  have HM := Lib.hid (hm.below hb3 hm.lt)
  have x0 : w3.cell? ⟨w.heap.size, 0, none⟩ = some (.pointer none) := cell_of_row _ _ _ _ _ (0, 0) hx3.1
  have He : (⟨#[]⟩ : ByteArray) = bz [] := rfl
  have Hw3 := Lib.hid hw3
  have Hs3 := Lib.hid hsz3
  have HR := Lib.hid hr
  have hpos := hm.lt
  clear hm hr hb3 hx3 hsz3
  obtain ⟨n, hn⟩ : ∃ n, n = w.heap.size := ⟨_, rfl⟩
  have Hn := Lib.hid hn
  rw [← hn] at x0 HX3 Hs3
  clear hw3 hn
  go_enter Try.func13, Try.ntmps13
  go_wp2_with fail
  rw [← He, ← Hn.out]
  rw [show ((((w.alloc (.cells #[.pointer none] 25)).alloc (.cells #[sv s] 9)).alloc (.cells #[.string ⟨#[]⟩] 9))) = w3 from Hw3.out.symm]
  refine HN.out.mono ?_
  rintro e w4 ⟨T, R, Dn, lv, rfl, h1, h2⟩
  have hs3 := Hs3.out
  have b0 : w4.heap[n]? = _ := (h2.block n (by omega)).trans HX3.out.1
  have b1 := (h2.block (n + 1) (by omega)).trans HX3.out.2.1
  have b2 := (h2.block (n + 2) (by omega)).trans HX3.out.2.2
  have y0 : w4.cell? ⟨n, 0, none⟩ = some (.pointer none) := cell_of_row _ _ _ _ _ (0, 0) b0
  have g0 := frozen_of_row w4 n 0 _ _ b0
  obtain ⟨w5, hw5⟩ : ∃ w5, w5 = w4.setCell ⟨n, 0, none⟩ (.pointer (some ⟨T, 0, none⟩)) := ⟨_, rfl⟩
  have hx5 : ExB w5 n T s [] := by
    rw [hw5]
    exact ⟨by rw [heap_setCell_same w4 n 0 _ _ _ b0]; rfl, ((ch_set w4 n 0 _).kp (by omega)).at_ b1, ((ch_set w4 n 0 _).kp (by omega)).at_ b2⟩
  have ht5 : TabAt w5 w3.heap.size T R Dn lv [] (uniqP []) [] := by rw [hw5]; exact h1.kp_set b0 (by decide) (by decide)
  have hb5 : Below n w w5 := by
    rw [hw5]
    have h9 : Below n w w4 := by rw [Hn.out]; exact HB3.out.trans (h2.mono HB3.out.size)
    exact h9.setCell (p := ⟨n, 0, none⟩) (Nat.le_refl n) _
  have hpos2 : 0 < n := by have := Hn.out; omega
  have hsz5 : n + 3 ≤ w5.heap.size := by have := h2.size; rw [hw5]; simp; omega
  have HM5 := (HM.out.below h2 (by omega))
  have HM6 : MaxAt m w5 := by rw [hw5]; exact ((ch_set w4 n 0 (.pointer (some ⟨T, 0, none⟩))).cellK (by omega) HM5.lt).trans HM5
  have HG := Lib.hid (guard_exp_ok (by omega) (fun _ h => by cases h) s v dn w5 n hsz5 HM6 ht5 hs hx5 HR.out)
  have HB5 := Lib.hid hb5
  have Hw5 := Lib.hid hw5
  have HX5 := Lib.hid hx5
  have HT5 := Lib.hid ht5
  clear hw5 h1 h2 b0 b1 b2 hx5 ht5 hb5 HM5 HM6 hs3
  go_wp2_with fail
  rw [← Hw5.out]
  refine HG.out.mono ?_
  rintro e w6 ⟨rfl, h1, h2, h3⟩
  obtain ⟨-, -, y2, g2, -⟩ := h2.cells
  have HX6 := Lib.hid h2
  have hlo := chT_lo h1
  have h10 : Below n w5 w6 := h3.below (B := n) (by
    rintro k (e | rfl)
    · have := hlo k e; have := Hs3.out; omega
    · omega) (by omega)
  have HB6 := Lib.hid (HB5.out.trans h10)
  clear h10
  clear h1 h2 h3 y0 g0 HG hlo
  go_wp2
  refine bodyPost_ret (exp_results (n := n + 2) (v := v) _ _ (Lib.cell_of_heap (heap_setCell_same w6 (n + 2) 0 _ _ _ HX6.out.2.2) 0) rfl) rfl ?_
  refine ⟨rfl, ?_⟩
  rw [← Hn.out]
  exact HB6.out.setCell (p := ⟨n + 2, 0, none⟩) (show n ≤ n + 2 by omega) _
end Go.Proofs.Ytpgdioopkcfjdaa
