/- CharsClasses: the law, walked. -/
import Derived.Test.YtnkbeaipgadphaaChL
import Derived.Test.YtnkbeaipgadphaaArgC
namespace Go.Proofs.Ytnkbeaipgadphaa
open Go.RowKit
open C01

theorem classes_any (c : Int) (w : World) (h0 : 0 ≤ c) (h1 : c ≤ 255) : Calls Try.prog 10 #[.int .u8 c] w fun e w' => e = .returned (.bool true) ∧ Below w.heap.size w w' := by
  obtain ⟨e1, e2, e4, e8, e16⟩ := class_eq h0 h1
  have A1 := Lib.hid (fun w => IsBlank_any c w)
  have A2 := Lib.hid (fun w => IsDigit_any c w)
  have A4 := Lib.hid (fun w => IsFirst_any c w)
  have A8 := Lib.hid (fun w => IsName_any c w)
  have A16 := Lib.hid (fun w => IsText_any c w)
  have B1 := Lib.hid (fun w => Is_any c 1 w (by simp))
  have B2 := Lib.hid (fun w => Is_any c 2 w (by simp))
  have B4 := Lib.hid (fun w => Is_any c 4 w (by simp))
  have B8 := Lib.hid (fun w => Is_any c 8 w (by simp))
  have B16 := Lib.hid (fun w => Is_any c 16 w (by simp))
  rw [e1] at B1
  rw [e2] at B2
  rw [e4] at B4
  rw [e8] at B8
  rw [e16] at B16
  clear e1 e2 e4 e8 e16 h0 h1
  generalize blankB c = b1 at A1 B1
  generalize digitB c = b2 at A2 B2
  generalize firstB c = b4 at A4 B4
  generalize nameB c = b8 at A8 B8
  generalize textB c = b16 at A16 B16
  have HL := Lib.hid (lives_any w)
  go_enter Try.func10, Try.ntmps10
  go_wp2_with (first
    | (go_at_call 23; with_reducible refine (A1.out _).mono ?_; rintro e w1 ⟨rfl, rfl⟩)
    | (go_at_call 25; with_reducible refine (A2.out _).mono ?_; rintro e w1 ⟨rfl, rfl⟩)
    | (go_at_call 26; with_reducible refine (A4.out _).mono ?_; rintro e w1 ⟨rfl, rfl⟩)
    | (go_at_call 27; with_reducible refine (A8.out _).mono ?_; rintro e w1 ⟨rfl, rfl⟩)
    | (go_at_call 28; with_reducible refine (A16.out _).mono ?_; rintro e w1 ⟨rfl, rfl⟩)
    | (go_at_call 24; with_reducible refine (B1.out _).mono ?_; rintro e w1 ⟨rfl, rfl⟩)
    | (go_at_call 24; with_reducible refine (B2.out _).mono ?_; rintro e w1 ⟨rfl, rfl⟩)
    | (go_at_call 24; with_reducible refine (B4.out _).mono ?_; rintro e w1 ⟨rfl, rfl⟩)
    | (go_at_call 24; with_reducible refine (B8.out _).mono ?_; rintro e w1 ⟨rfl, rfl⟩)
    | (go_at_call 24; with_reducible refine (B16.out _).mono ?_; rintro e w1 ⟨rfl, rfl⟩)
    | (go_at_call 15; with_reducible refine HL.out.mono ?_; rintro e w2 ⟨rfl, hb⟩; have HB := Lib.hid hb; clear hb))
  go_ret
  exact ⟨rfl, HB.out⟩

theorem walk_CharsClasses (W : World) (v0 : Value) (a0 : Arg Try.prog W 5 v0) : Calls Try.prog 10 #[v0] W fun e W' => e = .returned (.bool true) ∧ Below W.heap.size W W' := by
  obtain ⟨n, rfl, h0, h1⟩ := arg_byte a0
  exact classes_any n W h0 h1
end Go.Proofs.Ytnkbeaipgadphaa
