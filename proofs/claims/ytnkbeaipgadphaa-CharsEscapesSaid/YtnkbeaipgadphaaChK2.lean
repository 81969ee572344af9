/- CharsEscapes: the law, walked. -/
import Derived.Test.YtnkbeaipgadphaaChW11
import Derived.Test.YtnkbeaipgadphaaArgC2
namespace Go.Proofs.Ytnkbeaipgadphaa
open Go.RowKit
open C01

set_option maxHeartbeats 1000000 in
theorem walk_CharsEscapes (W : World) (v0 v1 : Value) (a0 : Arg Try.prog W 9 v0) (a1 : Arg Try.prog W 4 v1) : Calls Try.prog 7 #[v0, v1] W fun e W' => e = .returned (.bool true) ∧ Below W.heap.size W W' := by
  obtain ⟨s, rfl⟩ := arg_string a0
  obtain ⟨b, rfl⟩ := arg_bool a1
  clear a0 a1
  have H0 := Lib.hid (fun w => cut_any s w)
  have hs := cutS_size s
  generalize cutS s = t at H0 hs
  have H1 := Lib.hid (fun w => Escape_any t b w (by omega))
  have H2 := Lib.hid (fun w => refEscape_any t b w (by omega))
  have H1 := Lib.hid (show ∀ w, Calls Try.prog 19 #[.string t, .bool b] w fun e w' => e = .returned (.string (txt (escL b t.data.toList))) ∧ Below w.heap.size w w' from H1.out)
  generalize txt (escL b t.data.toList) = r at H1 H2
  have HL := Lib.hid (fun w => lives_any w)
  go_enter Try.func7, Try.ntmps7
  go_wp2_with (first
    | (go_at_call 16; with_reducible refine (H0.out _).mono ?_; rintro e w1 ⟨rfl, rfl⟩)
    | (go_at_call 19; with_reducible refine (H1.out _).mono ?_; rintro e w1 ⟨rfl, hb⟩; have HB := Lib.hid hb; clear hb)
    | (go_at_call 20; with_reducible refine (H2.out _).mono ?_; rintro e w1 ⟨rfl, rfl⟩)
    | (go_at_call 15; with_reducible refine (HL.out _).mono ?_; rintro e w2 ⟨rfl, hb⟩; have HB2 := Lib.hid hb; clear hb))
  go_ret
  exact ⟨rfl, HB.out.trans (HB2.out.mono HB.out.size)⟩
end Go.Proofs.Ytnkbeaipgadphaa
