/- dimacs.Print. -/
import Derived.Test.YtgfbmidpiamkhaaDoorDiP4
import Derived.Lib.QuietBelow
namespace Go.Proofs.YtgfbmidpiamkhaaDoor
open Go.RowKit
open D28 Go.Sort
namespace D28
/-- `p cnf ` -/
def pcnf : Bs := [112, 32, 99, 110, 102, 32]
def printQ (vars : Int) (l : List (List Int)) : Bs := pcnf ++ numL vars ++ [32] ++ numL l.length ++ [10] ++ printL l
end D28
set_option maxRecDepth 100000 in
set_option maxHeartbeats 4000000 in
theorem Print_any (vars : Int) (v : Value) (l : List (List Int)) (w : World) (hv : RIntss w (Lt w.heap.size) v l) (hl : LightL l) (hr : -9223372036854775808 ≤ vars ∧ vars ≤ 9223372036854775807) : Calls Tryd.prog 10 #[.agg #[.int .i64 vars, v]] w fun e w' => e = .returned (sv (printQ vars l)) ∧ Below w.heap.size w w' := by
  obtain ⟨w1, hw1⟩ : ∃ w1, w1 = w.alloc (.cells #[.int .i64 vars, v] 24) := ⟨_, rfl⟩
  have hb1 : Below w.heap.size w w1 := by rw [hw1]; exact below_alloc _ _
  have hz1 : w.heap.size < w1.heap.size := by rw [hw1]; simp
  have c0 : w1.cell? ⟨w.heap.size, 0, none⟩ = some (.int .i64 vars) := by rw [hw1]; exact box_cell (Below.refl _ _) 0
  have c1 : w1.cell? ⟨w.heap.size, 1, none⟩ = some v := by rw [hw1]; exact box_cell (Below.refl _ _) 1
  obtain ⟨A, cv, rfl, hm, -⟩ := hv.open_
  have hl60 := hl.1
  have HV := Lib.hid (fun d os => number_any vars (grow (redrawn w1 d) os) hr)
  have HN := Lib.hid (fun d os => number_any (l.length : Int) (grow (redrawn w1 d) os) (by omega))
  have HP := Lib.hid (fun d os => PrintProof_any (.slice A l.length cv) l (grow (redrawn w1 d) os) (RIntss.stable _ _ _ _ _ _ hv (fun b hb => ((hb1.trans ((below_regrown w1 d os).mono hb1.size)).block b hb)) fun b hb => Nat.lt_of_lt_of_le hb (Nat.le_trans hb1.size (below_regrown w1 d os).size)) hl)
  have hlv := numL_len hr
  have hln := numL_len (x := (l.length : Int)) (by omega)
  have hlp := hl.pre l.length
  rw [List.take_length] at hlp
  have hres := Lib.hid (show printQ vars l = pcnf ++ numL vars ++ [32] ++ numL l.length ++ [10] ++ printL l from rfl)
  obtain ⟨a, ha⟩ : ∃ a, a = numL vars := ⟨_, rfl⟩
  obtain ⟨b, hb⟩ : ∃ b, b = numL (l.length : Int) := ⟨_, rfl⟩
  obtain ⟨p, hp⟩ : ∃ p, p = printL l := ⟨_, rfl⟩
  rw [← ha] at HV hlv hres
  rw [← hb] at HN hln hres
  rw [← hp] at HP hlp hres
  have hup := fun {j b : Nat} {v : Value} (hb : b < w1.heap.size) (h : w1.cell? ⟨b, j, none⟩ = some v) dd os => ((below_regrown w1 dd os).cell (p := ⟨b, j, none⟩) hb).trans h
  have q0 := hup hz1 c0
  have q1 := hup hz1 c1
  have x1 := fun w => add_bz (P := Tryd.prog) (w := w) pcnf a (by simp [pcnf]; omega)
  have x2 := fun w => add_bz (P := Tryd.prog) (w := w) (pcnf ++ a) [32] (by simp [pcnf]; omega)
  have x3 := fun w => add_bz (P := Tryd.prog) (w := w) (pcnf ++ a ++ [32]) b (by simp [pcnf]; omega)
  have x4 := fun w => add_bz (P := Tryd.prog) (w := w) (pcnf ++ a ++ [32] ++ b) [10] (by simp [pcnf]; omega)
  have x5 := fun w => add_bz (P := Tryd.prog) (w := w) (pcnf ++ a ++ [32] ++ b ++ [10]) p (by simp [pcnf]; omega)
  obtain ⟨y1, hy1⟩ : ∃ y, pcnf ++ a = y := ⟨_, rfl⟩
  rw [hy1] at x1 x2 x3 x4 x5 hres
  obtain ⟨y2, hy2⟩ : ∃ y, y1 ++ [32] = y := ⟨_, rfl⟩
  rw [hy2] at x2 x3 x4 x5 hres
  obtain ⟨y3, hy3⟩ : ∃ y, y2 ++ b = y := ⟨_, rfl⟩
  rw [hy3] at x3 x4 x5 hres
  obtain ⟨y4, hy4⟩ : ∃ y, y3 ++ [10] = y := ⟨_, rfl⟩
  rw [hy4] at x4 x5 hres
  obtain ⟨y5, hy5⟩ : ∃ y, y4 ++ p = y := ⟨_, rfl⟩
  rw [hy5] at x5 hres
  clear hy1 hy2 hy3 hy4 hy5
  have z1 : (⟨#[112, 32, 99, 110, 102, 32]⟩ : ByteArray) = bz pcnf := rfl
  have z2 : (⟨#[32]⟩ : ByteArray) = bz [32] := rfl
  have z3 : (⟨#[10]⟩ : ByteArray) = bz [10] := rfl
  have HW1 := Lib.hid hw1
  have HB1 := Lib.hid hb1
  have HB2 := Lib.hid (fun d os => hb1.trans ((below_regrown w1 d os).mono hb1.size))
  generalize pcnf = pc at *
  clear hup ha hb hp hw1 hb1 hv
  go_enter Tryd.func10, Tryd.ntmps10
  rw [z1, z2, z3]
  go_upto_region 1 with (fail)
  rw [← HW1.out]
  refine wp_region_quiet_below (by kernel_rfl) (by kernel_rfl) ?_
  repeat (quiet_step (first
      | (go_at_call 24; first | with_reducible exact Calls.regrown_of (HV.out _ _) | with_reducible exact Calls.regrown_of (HN.out _ _))
      | (go_at_call 17; with_reducible exact Calls.regrown_of (HP.out _ _))))
  refine wpQuiet_nil ?_
  intro _ hw'
  obtain ⟨⟨dq, osq⟩, hw''⟩ := hw'
  subst hw''
  go_wp2
  go_ret
  exact ⟨by rw [hres.out]; rfl, HB2.out _ _⟩
end Go.Proofs.YtgfbmidpiamkhaaDoor
