/- CoordMatches: the law, walked. -/
import Derived.Test.YtldhgdoeehnbjaaDoorCoK1
import Derived.Test.YtldhgdoeehnbjaaDoorCoW9
import Derived.Test.YtldhgdoeehnbjaaDoorCoA
import Derived.Lib.QuietBelow
namespace Go.Proofs.YtldhgdoeehnbjaaDoor
open Go.RowKit

set_option maxHeartbeats 2000000 in
theorem walk_CoordMatches (m : Int) (W : World) (hm : MaxAt m W) (v0 v1 : Value) (a0 : Arg Tryd.prog W 23 v0) (a1 : Arg Tryd.prog W 23 v1) : Calls Tryd.prog 3 #[v0, v1] W fun e W' => e = .returned (.bool true) ∧ Below W.heap.size W W' := by
  obtain ⟨a, b, rfl⟩ := arg_id a0
  obtain ⟨c, d, rfl⟩ := arg_id a1
  clear a0 a1
  have HL := Lib.hid (fun w (hm : MaxAt m w) => lives_any m w hm)
  obtain ⟨w1, hw1⟩ : ∃ w1, w1 = (W.alloc (.cells #[.string a, .string b] 23)).alloc (.cells #[.string c, .string d] 23) := ⟨_, rfl⟩
  have HB := Lib.hid (show Below W.heap.size W w1 by rw [hw1]; exact (below_alloc W _).alloc (by simp) _)
  have HM := Lib.hid (hm.up HB.out)
  have HW1 := Lib.hid hw1
  clear hw1 hm
  have hcases : (a.size ≤ 400 ∧ b.size ≤ 400 ∧ c.size ≤ 400 ∧ d.size ≤ 400) ∨ 400 < a.size ∨ (a.size ≤ 400 ∧ 400 < b.size) ∨ (a.size ≤ 400 ∧ b.size ≤ 400 ∧ 400 < c.size) ∨ (a.size ≤ 400 ∧ b.size ≤ 400 ∧ c.size ≤ 400 ∧ 400 < d.size) := by omega
  rcases hcases with ⟨h1, h2, h3, h4⟩ | h1 | ⟨h1, h2⟩ | ⟨h1, h2, h3⟩ | ⟨h1, h2, h3, h4⟩
  case inl =>
    have HA := Lib.hid (fun w => Matches_any a b c d w)
    have HR := Lib.hid (fun w => refMatches_any a b c d w)
    generalize matB a b c d = r at HA HR
    have HS := Lib.hid (fun w => Matches_any c d c d w)
    have HT := Lib.hid (fun w => Matches_any ⟨#[42]⟩ ⟨#[42]⟩ c d w)
    rw [matB_self] at HS
    rw [matB_star] at HT
    go_enter Tryd.func3, Tryd.ntmps3
    go_upto_region 3 with (fail)
    rw [← HW1.out]
    have k0 : w1.cell? ⟨W.heap.size, 0, none⟩ = some (.string a) := by rw [HW1.out]; exact box_a (Below.refl _ _) 0
    have k1 : w1.cell? ⟨W.heap.size, 1, none⟩ = some (.string b) := by rw [HW1.out]; exact box_a (Below.refl _ _) 1
    have k2 : w1.cell? ⟨W.heap.size + 1, 0, none⟩ = some (.string c) := by rw [HW1.out]; exact box_b (Below.refl _ _) 0
    have k3 : w1.cell? ⟨W.heap.size + 1, 1, none⟩ = some (.string d) := by rw [HW1.out]; exact box_b (Below.refl _ _) 1
    have hz1 : W.heap.size + 1 < w1.heap.size := by rw [HW1.out]; simp
    have q0 := fun dd os => ((below_regrown w1 dd os).cell (p := ⟨W.heap.size, 0, none⟩) (by show W.heap.size < _; omega)).trans k0
    have q1 := fun dd os => ((below_regrown w1 dd os).cell (p := ⟨W.heap.size, 1, none⟩) (by show W.heap.size < _; omega)).trans k1
    have q2 := fun dd os => ((below_regrown w1 dd os).cell (p := ⟨W.heap.size + 1, 0, none⟩) (by show W.heap.size + 1 < _; omega)).trans k2
    have q3 := fun dd os => ((below_regrown w1 dd os).cell (p := ⟨W.heap.size + 1, 1, none⟩) (by show W.heap.size + 1 < _; omega)).trans k3
    have HMr := Lib.hid (fun dd os => HM.out.up (below_regrown w1 dd os))
    refine wp_region_quiet_below (by kernel_rfl) (by kernel_rfl) ?_
    repeat (quiet_step (first
        | (go_at_call 12; with_reducible exact Calls.regrown_of (HA.out _))
        | (go_at_call 13; with_reducible exact Calls.regrown_of (HR.out _))
        | (go_at_call 12; with_reducible exact Calls.regrown_of (HS.out _))
        | (go_at_call 12; with_reducible exact Calls.regrown_of (HT.out _))
        | (go_at_call 11; with_reducible exact Calls.regrown_of (HL.out _ (HMr.out _ _)))))
    refine wpQuiet_nil ?_
    intro _ hw'
    obtain ⟨⟨dq, osq⟩, hw''⟩ := hw'
    subst hw''
    go_wp2
    go_ret
    exact ⟨rfl, HB.out.trans ((below_regrown w1 dq osq).mono HB.out.size)⟩
  all_goals
    go_enter Tryd.func3, Tryd.ntmps3
    go_wp2_with (go_at_call 11; with_reducible refine (HL.out _ (HW1.out ▸ HM.out)).mono ?_; rintro e w4 ⟨rfl, hb⟩; have HB3 := Lib.hid (HB.out.trans ((HW1.out ▸ hb).mono HB.out.size)); clear hb)
    go_ret
    exact ⟨rfl, HB3.out⟩
end Go.Proofs.YtldhgdoeehnbjaaDoor
