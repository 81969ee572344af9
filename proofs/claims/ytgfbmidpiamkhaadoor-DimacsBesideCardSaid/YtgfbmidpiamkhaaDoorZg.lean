/- What numbers, truths, rows of them, and questions that are handed to a law hold. / What texts that are handed to a law hold. -/
import Derived.ChangeSame
import Derived.Test.YtgfbmidpiamkhaaDoorZa
namespace Go.Proofs.YtgfbmidpiamkhaaDoor
open Go.RowKit Go.ChangeShapes Go.WideShapes Go.ChangeAt Go.Deep Go.Joins

theorem RSl.weak {w : World} {S : Nat → Prop} {v : Value} {l : List Int} (h : RSl RIntW w S v l) : RInts w S v l := h.map_ fun _ _ _ h => h.1
theorem reads1_map {α : Type} {P : Program} {t : TypeId} {R R' : Rd α} (h : Reads1 P t R) (hm : ∀ w S v x, R w S v x → R' w S v x) : Reads1 P t R' := fun h1 h2 => by
  obtain ⟨v, d, e, hd⟩ := h h1 h2
  exact ⟨v, d, e, hm _ _ _ _ hd⟩
theorem reads1_intsW : Reads1 Tryd.prog 56 (RSl RIntW) := reads1_slice Tryd.underlying56 (by kernel_rfl) (reads1_int Tryd.underlying3)
theorem reads1_ints : Reads1 Tryd.prog 56 RInts := reads1_map reads1_intsW fun _ _ _ _ h => h.weak
theorem reads1_intss : Reads1 Tryd.prog 22 RIntss := reads1_slice Tryd.underlying22 (by kernel_rfl) reads1_ints
theorem reads1_bools : Reads1 Tryd.prog 45 RBools := reads1_slice Tryd.underlying45 (by kernel_rfl) (reads1_bool Tryd.underlying4)
set_option maxRecDepth 100000 in
theorem arg_slice {α : Type} {w : World} {t e : TypeId} {v : Value} {R : Rd (List α)} (h : Arg Tryd.prog w t v) (ht : Tryd.prog.underlying t = some (.slice e)) (hR : Reads1 Tryd.prog t R) : ∃ l, R w (Lt w.heap.size) v l := by
  refine h.read1 hR fun cs e => ?_
  subst e
  obtain ⟨H, enc, base, d, p, hv, _⟩ := h
  obtain ⟨a0, len, cap, e⟩ := okWide_slice ht hv
  cases e
set_option maxRecDepth 100000 in
theorem arg_int {W : World} {v : Value} (h : Arg Tryd.prog W 3 v) : ∃ n : Int, v = .int .i64 n ∧ -9223372036854775808 ≤ n ∧ n ≤ 9223372036854775807 :=
  h.read1 (reads1_int Tryd.underlying3) fun cs e => by
    subst e
    obtain ⟨H, enc, base, d, p, hv, ht, _⟩ := h
    obtain ⟨n, e⟩ := WideShapes.okWide_int Tryd.underlying3 hv
    cases e
set_option maxRecDepth 100000 in
theorem arg_question {w : World} {v : Value} (h : Arg Tryd.prog w 24 v) : ∃ n s C, v = .agg #[.int .i64 n, s] ∧ RIntss w (Lt w.heap.size) s C ∧ -9223372036854775808 ≤ n ∧ n ≤ 9223372036854775807 := by
  obtain ⟨H, enc, base, d, p, hv, ⟨fuel, hf⟩, hlt⟩ := h
  obtain ⟨cs, rfl, hsz⟩ := okWide_struct Tryd.underlying24 hv
  obtain ⟨c0, c1, rfl⟩ := array2 (hsz.trans (by kernel_rfl))
  obtain ⟨y0, y1, n, hx, _, g0, g1⟩ := trod_struct2 Tryd.underlying24 hf
  simp only [Prod.mk.injEq] at hx
  obtain ⟨rfl, rfl⟩ := hx
  have k1 : Tryd.prog.cellsOf 3 = 1 := by kernel_rfl
  have k2 : Tryd.prog.cellsOf 22 = 1 := by kernel_rfl
  obtain ⟨u0, x0, e0, r0⟩ := reads1_int Tryd.underlying3 (by simpa [Value.cells, k1] using g0) (fun q hq => hlt q (by simp [hq]))
  obtain ⟨u1, C, e1, r1⟩ := reads1_intss (by simpa [Value.cells, k2] using g1) (fun q hq => hlt q (by simp [hq]))
  simp at e0 e1
  subst e0 e1
  obtain ⟨rfl, b1, b2⟩ := r0
  exact ⟨x0, _, C, rfl, r1, b1, b2⟩
end Go.Proofs.YtgfbmidpiamkhaaDoor

namespace Go.Proofs.YtgfbmidpiamkhaaDoor
set_option maxRecDepth 100000
open Go.RowKit Go.ChangeShapes Go.WideShapes Go.ChangeAt Go.Deep

theorem arg_string {w : World} {v : Value} (h : Arg Tryd.prog w 9 v) : ∃ s : ByteArray, v = .string s := by
  obtain ⟨H, enc, base, d, p, hw, hd, _⟩ := h
  exact okWide_string Tryd.underlying9 hw
theorem arg_rows {w : World} {v : Value} (h : Arg Tryd.prog w 22 v) : ∃ l, RIntss w (Lt w.heap.size) v l := arg_slice h Tryd.underlying22 reads1_intss
end Go.Proofs.YtgfbmidpiamkhaaDoor
