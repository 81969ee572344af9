/- Answers: what one that is handed to a law holds; the same; printed by dimacs and by the reference. -/
import Derived.Test.YtgfbmidpiamkhaaDoorQAnR1
import Derived.Test.YtgfbmidpiamkhaaDoorZf
import Derived.Test.YtgfbmidpiamkhaaDoorZg
namespace Go.Proofs.YtgfbmidpiamkhaaDoor
open Go.RowKit Go.ChangeShapes Go.WideShapes Go.ChangeAt Go.Deep Go.Joins
open C01 D28

set_option maxRecDepth 100000 in
theorem arg_answer {w : World} {v : Value} (h : Arg Tryd.prog w 47 v) : ∃ (E : Int) (vT vP : Value) (C : Int) (T : List Bool) (L : List (List Int)), v = .agg #[.int .i64 E, vT, vP, .int .i64 C] ∧ RBools w (Lt w.heap.size) vT T ∧ RIntss w (Lt w.heap.size) vP L ∧ -9223372036854775808 ≤ E ∧ E ≤ 9223372036854775807 := by
  obtain ⟨H, enc, base, d, p, hv, ⟨fuel, hr⟩, hlt⟩ := h
  obtain ⟨cs, rfl, hsz⟩ := okWide_struct Tryd.underlying47 hv
  have hc : cs.size = 4 := hsz.trans (by kernel_rfl)
  obtain ⟨xs, m, _, hxe, _, hl, hx⟩ := DataW.trod_struct Tryd.underlying47 hr
  have hx4 : xs.length = 4 := hl
  have g0 := hx 0 _ rfl
  have g1 := hx 1 _ rfl
  have g2 := hx 2 _ rfl
  have g3 := hx 3 _ rfl
  have k1 : Tryd.prog.cellsOf 3 = 1 := by kernel_rfl
  have k2 : Tryd.prog.cellsOf 22 = 1 := by kernel_rfl
  have k3 : Tryd.prog.cellsOf 45 = 1 := by kernel_rfl
  obtain ⟨l, rfl⟩ : ∃ l, cs = List.toArray l := ⟨cs.toList, by simp⟩
  have hc' : l.length = 4 := by simpa using hc
  match l, hc', xs, hx4 with
  | [a, b, c, d'], _, [y0, y1, y2, y3], _ =>
    simp [Value.cells, k1, k2, k3] at g0 g1 g2 g3
    have hp : ∀ y ∈ [y0, y1, y2, y3], ∀ q ∈ y.2, q ∈ p := by
      intro y hy q hq
      simp only [Prod.mk.injEq] at hxe
      rw [hxe.2]
      exact List.mem_flatMap.2 ⟨y, hy, hq⟩
    obtain ⟨u0, x0, e0, r0⟩ := reads1_int Tryd.underlying3 g0 (fun q hq => hlt q (hp y0 (by simp) q hq))
    obtain ⟨u1, x1, e1, r1⟩ := reads1_bools g1 (fun q hq => hlt q (hp y1 (by simp) q hq))
    obtain ⟨u2, x2, e2, r2⟩ := reads1_intss g2 (fun q hq => hlt q (hp y2 (by simp) q hq))
    obtain ⟨u3, x3, e3, r3⟩ := reads1_int Tryd.underlying3 g3 (fun q hq => hlt q (hp y3 (by simp) q hq))
    simp at e0 e1 e2 e3
    subst e0 e1 e2 e3
    obtain ⟨rfl, b1, b2⟩ := r0
    obtain ⟨rfl, -, -⟩ := r3
    exact ⟨x0, b, c, x3, x1, x2, rfl, r1, r2, b1, b2⟩

namespace D28
/-- the numbers of some truths -/
def tnums (T : List Bool) : List Int := T.mapIdx fun i t => if t then (i : Int) + 1 else -((i : Int) + 1)
theorem tnums_len (T : List Bool) : (tnums T).length = T.length := by simp [tnums]
theorem tnums_get {T : List Bool} {k : Nat} (h : k < T.length) : (tnums T)[k]'(by rw [tnums_len]; exact h) = if T[k] then (k : Int) + 1 else -((k : Int) + 1) := by simp [tnums]
theorem tnums_take {T : List Bool} {k : Nat} (h : k < T.length) : (tnums T).take (k + 1) = (tnums T).take k ++ [if T[k] then (k : Int) + 1 else -((k : Int) + 1)] := by
  rw [List.take_succ_eq_append_getElem (by rw [tnums_len]; exact h), tnums_get h]
theorem tnums_ok {T : List Bool} (h : T.length ≤ 300) : ∀ n ∈ tnums T, okN n := by
  intro n hn
  obtain ⟨k, hk, rfl⟩ := List.getElem_of_mem hn
  rw [tnums_len] at hk
  rw [tnums_get hk]
  unfold okN
  split <;> omega
/-- `s SATISFIABLE` and a line's end -/
def sSat : Bs := [115, 32] ++ satB ++ [10]
def printA (E : Int) (T : List Bool) : Bs := if E = 1 then sSat ++ [118, 32] ++ lineL (tnums T) else if E = 2 then [115, 32] ++ unsatB ++ [10] else [115, 32] ++ unkB ++ [10]
end D28
end Go.Proofs.YtgfbmidpiamkhaaDoor
