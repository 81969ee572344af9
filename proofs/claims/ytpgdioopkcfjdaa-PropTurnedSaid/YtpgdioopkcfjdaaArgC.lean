/- What bytes, numbers and truths that are handed to a law hold. -/
import Derived.Test.YtpgdioopkcfjdaaPlain
import Derived.ChangeSame
namespace Go.Proofs.Ytpgdioopkcfjdaa
open Go.RowKit Go.ChangeShapes Go.WideShapes Go.ChangeAt Go.Deep

theorem wf_u8 {n : Int} (h : (Lit.int .u8 n).wf = true) : 0 ≤ n ∧ n ≤ 255 := by
  simp only [Lit.wf, Bool.and_eq_true, decide_eq_true_eq] at h
  exact h
theorem arg_byte {w : World} {v : Value} (h : Arg Try.prog w 5 v) : ∃ n : Int, v = .int .u8 n ∧ 0 ≤ n ∧ n ≤ 255 := by
  obtain ⟨H, enc, base, d, p, hw, hd, _⟩ := h
  obtain ⟨n, hx, _, _, hf⟩ := open_int Try.underlying5 hw hd
  exact ⟨n, hx, wf_u8 hf⟩
end Go.Proofs.Ytpgdioopkcfjdaa
