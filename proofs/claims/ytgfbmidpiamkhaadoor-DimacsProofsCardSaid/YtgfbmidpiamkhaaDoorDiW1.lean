/- chars: classes of bytes; small functions of dimacs. -/
import Derived.Test.YtgfbmidpiamkhaaDoorDiSh
import Derived.Test.YtgfbmidpiamkhaaDoorDiD
import Derived.Test.YtgfbmidpiamkhaaDoorPlain
import Derived.Test.YtgfbmidpiamkhaaDoorChD
import Derived.Deep.DeepCutAuto
namespace Go.Proofs.YtgfbmidpiamkhaaDoor
open Go.RowKit
open C01

set_option maxHeartbeats 400000 in
theorem IsBlank_any (c : Int) (w : World) : Calls Tryd.prog 57 #[.int .u8 c] w fun e w' => e = .returned (.bool (blankB c)) ∧ w = w' := by
  go_enter Tryd.func57, Tryd.ntmps57
  go_wp2
  all_goals
    go_ret
    refine ⟨ret_bool ?_, rfl⟩
    first | rfl | (simp_all [blankB])
set_option maxHeartbeats 400000 in
theorem IsDigit_any (c : Int) (w : World) : Calls Tryd.prog 50 #[.int .u8 c] w fun e w' => e = .returned (.bool (digitB c)) ∧ w = w' := by
  by_cases h1 : 48 ≤ c <;> by_cases h2 : c ≤ 57
  all_goals
    have Hd := Lib.hid (show digitB c = _ from by simp only [digitB, h1, h2, decide_true, decide_false, Bool.and_true, Bool.and_false]; rfl)
    go_enter Tryd.func50, Tryd.ntmps50
    go_wp2
    go_ret
    exact ⟨ret_bool (by rw [Hd.out] <;> simp [h2]), rfl⟩
theorem class_ranges {c : Int} : (c < 9 ∨ c = 9 ∨ c = 10 ∨ (10 < c ∧ c < 13) ∨ c = 13 ∨ (13 < c ∧ c < 32) ∨ c = 32 ∨ (32 < c ∧ c < 45) ∨ c = 45 ∨ c = 46 ∨ c = 47 ∨ (48 ≤ c ∧ c ≤ 57) ∨ c = 58 ∨ (58 < c ∧ c < 65) ∨ (65 ≤ c ∧ c ≤ 90) ∨ (90 < c ∧ c < 95) ∨ c = 95 ∨ c = 96 ∨ (97 ≤ c ∧ c ≤ 122) ∨ 122 < c) := by omega
set_option maxHeartbeats 4000000 in
theorem Class_any (c : Int) (w : World) : Calls Tryd.prog 52 #[.int .u8 c] w fun e w' => e = .returned (.int .i64 (classI c)) ∧ w = w' := by
  rcases class_ranges (c := c) with h | rfl | rfl | ⟨h, h2⟩ | rfl | ⟨h, h2⟩ | rfl | ⟨h, h2⟩ | rfl | rfl | rfl | ⟨h, h2⟩ | rfl | ⟨h, h2⟩ | ⟨h, h2⟩ | ⟨h, h2⟩ | rfl | rfl | ⟨h, h2⟩ | h
  all_goals
    try have e32 : (c == 32) = false := by rw [beq_eq_false_iff_ne]; omega
    try have e9 : (c == 9) = false := by rw [beq_eq_false_iff_ne]; omega
    try have e10 : (c == 10) = false := by rw [beq_eq_false_iff_ne]; omega
    try have e13 : (c == 13) = false := by rw [beq_eq_false_iff_ne]; omega
    try have e95 : (c == 95) = false := by rw [beq_eq_false_iff_ne]; omega
    try have e46 : (c == 46) = false := by rw [beq_eq_false_iff_ne]; omega
    try have e45 : (c == 45) = false := by rw [beq_eq_false_iff_ne]; omega
    try have e58 : (c == 58) = false := by rw [beq_eq_false_iff_ne]; omega
    go_enter Tryd.func52, Tryd.ntmps52
    go_wp2
    go_ret
    refine ⟨ret_int ?_, rfl⟩
    first
      | rfl
      | (simp only [classI, i1, blankB, digitB, firstB, markB, textB, Bool.or_eq_true, Bool.and_eq_true, decide_eq_true_eq, beq_iff_eq]; repeat' (first | omega | split))
set_option maxHeartbeats 400000 in
theorem Is_any (c k : Int) (w : World) (hk : k = 1 ∨ k = 2 ∨ k = 4 ∨ k = 8 ∨ k = 16) : Calls Tryd.prog 35 #[.int .u8 c, .int .i64 k] w fun e w' => e = .returned (.bool (isI c k)) ∧ w = w' := by
  have H1 := Lib.hid (fun w => Class_any c w)
  have hb := classI_bounds c
  have Hd := Lib.hid (show isI c k = (classI c / k % 2 == 1) from rfl)
  obtain ⟨x, hx⟩ : ∃ x, x = classI c := ⟨_, rfl⟩
  rw [← hx] at H1 hb Hd
  clear hx
  rcases hk with rfl | rfl | rfl | rfl | rfl
  all_goals
    go_enter Tryd.func35, Tryd.ntmps35
    go_wp2_with (go_at_call 52; refine (H1.out _).mono ?_; rintro e w1 ⟨rfl, rfl⟩)
    go_ret
    exact ⟨ret_bool (by rw [Hd.out] <;> simp), rfl⟩
end Go.Proofs.YtgfbmidpiamkhaaDoor
