/- CharsRefs: the law, walked. -/
import Derived.Test.YtnkbeaipgadphaaChW18
import Derived.Test.YtnkbeaipgadphaaChD6
import Derived.Test.YtnkbeaipgadphaaChW10
import Derived.Test.YtnkbeaipgadphaaArgC2
namespace Go.Proofs.Ytnkbeaipgadphaa
open Go.RowKit
open C01

set_option maxHeartbeats 1000000 in
theorem walk_CharsRefs (W : World) (v0 : Value) (a0 : Arg Try.prog W 9 v0) : Calls Try.prog 5 #[v0] W fun e W' => e = .returned (.bool true) ∧ Below W.heap.size W W' := by
  obtain ⟨s, rfl⟩ := arg_string a0
  clear a0
  have H0 := Lib.hid (fun w => cut_any s w)
  have hs := cutS_size s
  generalize cutS s = t at H0 hs
  have H1 := Lib.hid (fun w => Ref_any t w (by omega))
  have H2 := Lib.hid (fun w => refRef_any t w (by omega))
  have HL := Lib.hid (fun w => lives_any w)
  have he := refR2_err t
  rw [refR_same] at H1
  unfold cv at H1
  generalize refR2 t = R at H1 H2 he
  obtain ⟨r1, r2, r3⟩ := R
  have H1 := Lib.hid (show ∀ w, Calls Try.prog 17 #[.string t] w fun e w' => e = .returned (.tuple #[.string r1, .int .i64 r2, .int .i64 (errK r3)]) ∧ Below w.heap.size w w' from H1.out)
  have H2 := Lib.hid (show ∀ w, Calls Try.prog 18 #[.string t] w fun e w' => e = .returned (.tuple #[.string r1, .int .i64 r2, .int .i64 r3]) ∧ Below w.heap.size w w' from H2.out)
  have he : r3 = 0 ∨ r3 = 1 ∨ r3 = 2 := he
  have x0 : ∀ w : World, (Instr.index 34 (.agg #[.int .i64 0, .int .i64 13, .int .i64 12]) (.int .i64 0)).run Try.prog w = .ok (.int .i64 0) w := fun _ => by kernel_rfl
  have x1 : ∀ w : World, (Instr.index 34 (.agg #[.int .i64 0, .int .i64 13, .int .i64 12]) (.int .i64 1)).run Try.prog w = .ok (.int .i64 13) w := fun _ => by kernel_rfl
  have x2 : ∀ w : World, (Instr.index 34 (.agg #[.int .i64 0, .int .i64 13, .int .i64 12]) (.int .i64 2)).run Try.prog w = .ok (.int .i64 12) w := fun _ => by kernel_rfl
  rcases he with rfl | rfl | rfl
  all_goals
    first
      | rw [show errK 0 = 0 from rfl] at H1
      | rw [show errK 1 = 13 from rfl] at H1
      | rw [show errK 2 = 12 from rfl] at H1
    go_enter Try.func5, Try.ntmps5
    go_wp2_with (first
      | (go_at_call 16; with_reducible refine (H0.out _).mono ?_; rintro e w1 ⟨rfl, rfl⟩)
      | (go_at_call 17; with_reducible refine (H1.out _).mono ?_; rintro e w1 ⟨rfl, hb⟩; have HB := Lib.hid hb; clear hb)
      | (go_at_call 18; with_reducible refine (H2.out _).mono ?_; rintro e w2 ⟨rfl, hb⟩; have HB2 := Lib.hid hb; clear hb)
      | (go_at_call 15; with_reducible refine (HL.out _).mono ?_; rintro e w3 ⟨rfl, hb⟩; have HB3 := Lib.hid hb; clear hb))
    go_ret
    exact ⟨rfl, HB.out.trans ((HB2.out.mono HB.out.size).trans (HB3.out.mono (Nat.le_trans HB.out.size HB2.out.size)))⟩
end Go.Proofs.Ytnkbeaipgadphaa
