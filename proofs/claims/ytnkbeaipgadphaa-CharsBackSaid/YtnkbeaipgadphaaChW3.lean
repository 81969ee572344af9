/- chars.digit, Letter. -/
import Derived.Test.YtnkbeaipgadphaaChW2
import Derived.Laws.Cover4
namespace Go.Proofs.Ytnkbeaipgadphaa
open Go.RowKit
open C01

set_option maxHeartbeats 1000000 in
theorem digit_any (c base : Int) (w : World) (h0 : 0 ≤ c) (h1 : c ≤ 255) : Calls Try.prog 48 #[.int .u8 c, .int .i64 base] w fun e w' => e = .returned (.int .i64 (digI c base)) ∧ w = w' := by
  have H1 := Lib.hid (fun w => IsDigit_any c w)
  by_cases hb : base = 16
  · subst hb
    rcases dig_ranges (c := c) with h | ⟨h, h2⟩ | ⟨h, h2⟩ | ⟨h, h2⟩ | ⟨h, h2⟩ | ⟨h, h2⟩ | h
    all_goals
      have Hd := Lib.hid (dig_eq c 16)
      have Hx := Lib.hid (show digitB c = decide (48 ≤ c ∧ c ≤ 57) by unfold digitB; rw [Bool.decide_and])
      first
        | rw [decide_eq_true (p := 48 ≤ c ∧ c ≤ 57) ⟨by omega, by omega⟩] at Hx
        | rw [decide_eq_false (p := 48 ≤ c ∧ c ≤ 57) (by omega)] at Hx
      rw [Hx.out] at H1
      go_enter Try.func48, Try.ntmps48
      go_wp2_with (go_at_call 25; refine (H1.out _).mono ?_; rintro e w1 ⟨rfl, rfl⟩)
      go_ret
      refine ⟨ret_int ?_, rfl⟩
      rw [Hd.out]
      simp only [true_and]
      repeat' (first | omega | split)
  · by_cases h : 48 ≤ c ∧ c ≤ 57
    all_goals
      have Hd := Lib.hid (show digI c base = if 48 ≤ c ∧ c ≤ 57 then c - 48 else -1 by rw [dig_eq]; simp only [hb, false_and, if_false])
      have Hx := Lib.hid (show digitB c = decide (48 ≤ c ∧ c ≤ 57) by unfold digitB; rw [Bool.decide_and])
      first
        | rw [decide_eq_true (p := 48 ≤ c ∧ c ≤ 57) ⟨by omega, by omega⟩] at Hx
        | rw [decide_eq_false (p := 48 ≤ c ∧ c ≤ 57) (by omega)] at Hx
      rw [Hx.out] at H1
      have hb2 : (base == 16) = false := by rw [beq_eq_false_iff_ne]; exact hb
      go_enter Try.func48, Try.ntmps48
      go_wp2_with (go_at_call 25; refine (H1.out _).mono ?_; rintro e w1 ⟨rfl, rfl⟩)
      go_ret
      refine ⟨ret_int ?_, rfl⟩
      rw [Hd.out]
      repeat' (first | omega | split)
/-- a letter's bytes; none, where it is no letter -/
def letterS (n : Int) : ByteArray := if letterOk n then Utf8.encode n else ⟨#[]⟩
theorem conv_letter (n : Int) (w : World) : (convert 48 9 (.slice (some ⟨w.heap.size, 0, none⟩) 1 1)).run Try.prog (w.alloc (.cells #[.int .i32 n] 21)) = .ok (.string (Utf8.encode n)) (w.alloc (.cells #[.int .i32 n] 21)) := by
  have := run_convert_runes (P := Try.prog) (w.alloc (.cells #[.int .i32 n] 21)) 48 9 21 ⟨w.heap.size, 0, none⟩ 1 1 [n] (Nat.le_refl _) Try.underlying48 Try.underlying21 Try.underlying9 (fun j hj => by
    have hj0 : j = 0 := by simpa using hj
    subst hj0
    rw [add_none, cell_of_row _ _ _ _ _ (0, 0) (heap_alloc_new w _)]; rfl)
  rw [this]
  congr 2
set_option maxHeartbeats 1000000 in
theorem Letter_any (n : Int) (w : World) (hn : -9223372036854775808 ≤ n ∧ n ≤ 9223372036854775807) : Calls Try.prog 13 #[.int .i64 n] w fun e w' => e = .returned (.tuple #[.string (letterS n), .bool (letterOk n)]) ∧ Below w.heap.size w w' := by
  rcases (show n < 9 ∨ n = 9 ∨ n = 10 ∨ (10 < n ∧ n < 13) ∨ n = 13 ∨ (13 < n ∧ n < 32) ∨ (32 ≤ n ∧ n < 55296) ∨ (55296 ≤ n ∧ n ≤ 57343) ∨ (57343 < n ∧ n ≤ 1114111) ∨ 1114111 < n by omega) with h | rfl | rfl | ⟨h, h2⟩ | rfl | ⟨h, h2⟩ | ⟨h, h2⟩ | ⟨h, h2⟩ | ⟨h, h2⟩ | h
  all_goals
    try have e1 : (n == 9) = false := by rw [beq_eq_false_iff_ne]; omega
    try have e2 : (n == 10) = false := by rw [beq_eq_false_iff_ne]; omega
    try have e3 : (n == 13) = false := by rw [beq_eq_false_iff_ne]; omega
    first
      | (have hy := conv_letter n w
         have Hl := Lib.hid (letter_yes (n := n) (by omega))
         go_enter Try.func13, Try.ntmps13
         go_wp2
         go_ret2
         exact ⟨by unfold letterS; rw [Hl.out]; rfl, below_alloc _ _⟩)
      | (have Hl := Lib.hid (letter_no (n := n) (by omega))
         go_enter Try.func13, Try.ntmps13
         go_wp2
         go_ret2
         exact ⟨by unfold letterS; rw [Hl.out]; rfl, Below.refl _ _⟩)
      | (have hy := conv_letter 9 w
         go_enter Try.func13, Try.ntmps13
         go_wp2
         go_ret2
         exact ⟨rfl, below_alloc _ _⟩)
      | (have hy := conv_letter 10 w
         go_enter Try.func13, Try.ntmps13
         go_wp2
         go_ret2
         exact ⟨rfl, below_alloc _ _⟩)
      | (have hy := conv_letter 13 w
         go_enter Try.func13, Try.ntmps13
         go_wp2
         go_ret2
         exact ⟨rfl, below_alloc _ _⟩)
end Go.Proofs.Ytnkbeaipgadphaa
