/- CharsNames: the law, walked. -/
import Derived.Test.YtnkbeaipgadphaaChW15
import Derived.Test.YtnkbeaipgadphaaArgC2
namespace Go.Proofs.Ytnkbeaipgadphaa
open Go.RowKit
open C01

set_option maxHeartbeats 1000000 in
theorem walk_CharsNames (W : World) (v0 : Value) (a0 : Arg Try.prog W 9 v0) : Calls Try.prog 12 #[v0] W fun e W' => e = .returned (.bool true) ∧ Below W.heap.size W W' := by
  obtain ⟨s, rfl⟩ := arg_string a0
  clear a0
  have H0 := Lib.hid (fun w => cut_any s w)
  have hs := cutS_size s
  generalize cutS s = t at H0 hs
  have H1 := Lib.hid (fun w => Name_any t w (by omega))
  have H2 := Lib.hid (fun w => refName_any t w (by omega))
  have H3 := Lib.hid (fun w => Trim_any t w (by omega))
  have H4 := Lib.hid (fun w => refTrim_any t w (by omega))
  have HL := Lib.hid (fun w => lives_any w)
  generalize nameN t = n at H1 H2
  generalize trimS t = r at H3 H4
  go_enter Try.func12, Try.ntmps12
  go_wp2_with (first
    | (go_at_call 16; with_reducible refine (H0.out _).mono ?_; rintro e w1 ⟨rfl, rfl⟩)
    | (go_at_call 30; with_reducible refine (H1.out _).mono ?_; rintro e w1 ⟨rfl, rfl⟩)
    | (go_at_call 31; with_reducible refine (H2.out _).mono ?_; rintro e w1 ⟨rfl, rfl⟩)
    | (go_at_call 32; with_reducible refine (H3.out _).mono ?_; rintro e w1 ⟨rfl, rfl⟩)
    | (go_at_call 33; with_reducible refine (H4.out _).mono ?_; rintro e w1 ⟨rfl, rfl⟩)
    | (go_at_call 15; with_reducible refine (HL.out _).mono ?_; rintro e w2 ⟨rfl, hb⟩; have HB := Lib.hid hb; clear hb))
  go_ret
  exact ⟨rfl, HB.out⟩
end Go.Proofs.Ytnkbeaipgadphaa
