/- What numbers, truths and texts that are handed to a law hold. -/
import Derived.Test.YtpgdioopkcfjdaaArgC
namespace Go.Proofs.Ytpgdioopkcfjdaa
open Go.RowKit Go.ChangeShapes Go.WideShapes Go.ChangeAt Go.Deep

theorem arg_int {w : World} {v : Value} (h : Arg Try.prog w 3 v) : ∃ n : Int, v = .int .i64 n ∧ -9223372036854775808 ≤ n ∧ n ≤ 9223372036854775807 := by
  obtain ⟨H, enc, base, d, p, hw, hd, _⟩ := h
  obtain ⟨n, hx, _, _, hf⟩ := open_int Try.underlying3 hw hd
  refine ⟨n, hx, ?_⟩
  simp only [Lit.wf, Bool.and_eq_true, decide_eq_true_eq] at hf
  exact hf
theorem arg_bool {w : World} {v : Value} (h : Arg Try.prog w 4 v) : ∃ b : Bool, v = .bool b := by
  obtain ⟨H, enc, base, d, p, hw, hd, _⟩ := h
  exact okWide_bool Try.underlying4 hw
theorem arg_string {w : World} {v : Value} (h : Arg Try.prog w 9 v) : ∃ s : ByteArray, v = .string s := by
  obtain ⟨H, enc, base, d, p, hw, hd, _⟩ := h
  exact okWide_string Try.underlying9 hw
end Go.Proofs.Ytpgdioopkcfjdaa
