/- What a trimmed question that is handed to a law holds. -/
import Derived.Test.YtdofiipckcfopaaArgL
namespace Go.Proofs.Ytdofiipckcfopaa
open Go.RowKit Go.ChangeShapes Go.WideShapes Go.ChangeAt Go.Deep Go.Joins

set_option maxRecDepth 100000 in
theorem arg_trimmed {w : World} {v : Value} (h : Arg Try.prog w 29 v) : ∃ n s0 s1 C F, v = .agg #[.int .i64 n, s0, s1] ∧ RIntss w (Lt w.heap.size) s0 C ∧ RInts w (Lt w.heap.size) s1 F ∧ -9223372036854775808 ≤ n ∧ n ≤ 9223372036854775807 := by
  obtain ⟨H, enc, base, d, p, hv, ⟨fuel, hf⟩, hlt⟩ := h
  obtain ⟨cs, rfl, hsz⟩ := okWide_struct Try.underlying29 hv
  obtain ⟨c0, c1, c2, rfl⟩ := array3 (hsz.trans (by kernel_rfl))
  obtain ⟨y0, y1, n, hx, _, g0, g1⟩ := trod_struct2 Try.underlying29 hf
  simp only [Prod.mk.injEq] at hx
  obtain ⟨rfl, rfl⟩ := hx
  have k0 : Try.prog.cellsOf 24 = 2 := by kernel_rfl
  have k1 : Try.prog.cellsOf 3 = 1 := by kernel_rfl
  have k2 : Try.prog.cellsOf 22 = 1 := by kernel_rfl
  have k3 : Try.prog.cellsOf 27 = 1 := by kernel_rfl
  simp only [Value.cells, k0, k3] at g0 g1
  obtain ⟨z0, z1, m, hz, _, q0, q1⟩ := trod_struct2 Try.underlying24 g0
  simp only [k1, k2] at q0 q1
  have hz2 : y0.2 = z0.2 ++ z1.2 := by rw [hz]
  obtain ⟨u0, x0, e0, r0⟩ := reads1_int Try.underlying3 q0 (fun q hq => hlt q (by simp [hz2, hq]))
  obtain ⟨u1, C, e1, r1⟩ := reads1_intss q1 (fun q hq => hlt q (by simp [hz2, hq]))
  obtain ⟨u2, F, e2, r2⟩ := reads1_ints g1 (fun q hq => hlt q (by simp [hq]))
  simp at e0 e1 e2
  subst e0 e1 e2
  obtain ⟨rfl, b1, b2⟩ := r0
  exact ⟨x0, _, _, C, F, rfl, r1, r2, b1, b2⟩
end Go.Proofs.Ytdofiipckcfopaa
