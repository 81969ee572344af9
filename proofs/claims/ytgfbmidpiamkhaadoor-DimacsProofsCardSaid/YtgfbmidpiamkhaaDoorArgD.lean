/- What texts that are handed to a law hold. -/
import Derived.Test.YtgfbmidpiamkhaaDoorArgL
namespace Go.Proofs.YtgfbmidpiamkhaaDoor
set_option maxRecDepth 100000
open Go.RowKit Go.ChangeShapes Go.WideShapes Go.ChangeAt Go.Deep

theorem arg_string {w : World} {v : Value} (h : Arg Tryd.prog w 9 v) : ∃ s : ByteArray, v = .string s := by
  obtain ⟨H, enc, base, d, p, hw, hd, _⟩ := h
  exact okWide_string Tryd.underlying9 hw
theorem arg_rows {w : World} {v : Value} (h : Arg Tryd.prog w 22 v) : ∃ l, RIntss w (Lt w.heap.size) v l := arg_slice h Tryd.underlying22 reads1_intss
end Go.Proofs.YtgfbmidpiamkhaaDoor
