/- What an array of three keys that is handed to a law holds. -/
import Derived.Test.YtldhgdoeehnbjaaDoorCoA
import Derived.OpenShut
namespace Go.Proofs.YtldhgdoeehnbjaaDoor
open Go.RowKit Go.ChangeShapes Go.WideShapes Go.ChangeAt Go.Deep

theorem trod_one {H : Type} {enc : TypeId × Value → H} {w : World} {base m j : Nat} {spare} {held} {l : List Value} {y : DataW H × List MemPlace}
    (h : DataW.trod enc Tryd.prog w base spare held m 9 ((l.drop j).take (Tryd.prog.cellsOf 9)) = some y) : ∃ s, l[j]? = some (.string s) := by
  have k1 : Tryd.prog.cellsOf 9 = 1 := by kernel_rfl
  obtain ⟨s, h2, _⟩ := DataW.trod_string Tryd.underlying9 h
  refine ⟨s, ?_⟩
  rw [k1] at h2
  have h3 := congrArg (fun l : List Value => l[0]?) h2
  simpa [Value.cells, List.getElem?_take, List.getElem?_drop] using h3
theorem arg_rows3 {w : World} {v : Value} (h : Arg Tryd.prog w 31 v) : ∃ cs : Array Value, v = .agg cs ∧ cs.size = 12 ∧ ∀ i, i < 12 → ∃ s, cs[i]? = some (.string s) := by
  obtain ⟨H, enc, base, d, p, hv, ⟨fuel, hr⟩, _⟩ := h
  obtain ⟨cs, rfl, hsz⟩ : ∃ cs, v = .agg cs ∧ cs.size = Tryd.prog.cellsOf 31 := by
    simp only [Value.okWide, Tryd.underlying31] at hv
    obtain ⟨cs, h1, h2, _⟩ := hv
    exact ⟨cs, h1, h2⟩
  have hc : Tryd.prog.cellsOf 31 = 12 := by kernel_rfl
  have hk : Tryd.prog.cellsOf 30 = 4 := by kernel_rfl
  rw [hc] at hsz
  obtain ⟨xs, m, _, _, hl0, hl, hx⟩ := Go.DataW.trod_array Tryd.underlying31 hr
  refine ⟨cs, rfl, hsz, fun i hi => ?_⟩
  have h1 := hx (i / 4) (by omega)
  rw [List.getElem?_eq_getElem (by omega), hk] at h1
  obtain ⟨ys, m2, _, _, hm0, hm, hy⟩ := DataW.trod_struct Tryd.underlying30 h1
  have hm4 : ys.length = 4 := hm
  have key : ∀ j, j < 4 → ∃ s, ((cs.toList.drop (i / 4 * 4)).take 4)[j]? = some (.string s) := by
    intro j hj
    match j, hj with
    | 0, _ =>
      have h3 := hy 0 _ rfl
      rw [List.getElem?_eq_getElem (by omega)] at h3
      exact trod_one h3
    | 1, _ =>
      have h3 := hy 1 _ rfl
      rw [List.getElem?_eq_getElem (by omega)] at h3
      exact trod_one h3
    | 2, _ =>
      have h3 := hy 2 _ rfl
      rw [List.getElem?_eq_getElem (by omega)] at h3
      exact trod_one h3
    | 3, _ =>
      have h3 := hy 3 _ rfl
      rw [List.getElem?_eq_getElem (by omega)] at h3
      exact trod_one h3
  obtain ⟨s, hs⟩ := key (i % 4) (by omega)
  refine ⟨s, ?_⟩
  rw [List.getElem?_take_of_lt (by omega), List.getElem?_drop, show i / 4 * 4 + i % 4 = i by omega] at hs
  simpa using hs
theorem arg_keys {w : World} {v : Value} (h : Arg Tryd.prog w 31 v) : ∃ a1 b1 c1 d1 a2 b2 c2 d2 a3 b3 c3 d3 : ByteArray, v = .agg #[.string a1, .string b1, .string c1, .string d1, .string a2, .string b2, .string c2, .string d2, .string a3, .string b3, .string c3, .string d3] := by
  obtain ⟨cs, rfl, hs, hc⟩ := arg_rows3 h
  obtain ⟨a1, e0⟩ := hc 0 (by omega)
  obtain ⟨b1, e1⟩ := hc 1 (by omega)
  obtain ⟨c1, e2⟩ := hc 2 (by omega)
  obtain ⟨d1, e3⟩ := hc 3 (by omega)
  obtain ⟨a2, e4⟩ := hc 4 (by omega)
  obtain ⟨b2, e5⟩ := hc 5 (by omega)
  obtain ⟨c2, e6⟩ := hc 6 (by omega)
  obtain ⟨d2, e7⟩ := hc 7 (by omega)
  obtain ⟨a3, e8⟩ := hc 8 (by omega)
  obtain ⟨b3, e9⟩ := hc 9 (by omega)
  obtain ⟨c3, e10⟩ := hc 10 (by omega)
  obtain ⟨d3, e11⟩ := hc 11 (by omega)
  refine ⟨a1, b1, c1, d1, a2, b2, c2, d2, a3, b3, c3, d3, congrArg Value.agg (Array.ext' ?_)⟩
  apply List.ext_getElem?
  intro i
  rw [Array.getElem?_toList]
  match i with
  | 0 => rw [e0]; rfl
  | 1 => rw [e1]; rfl
  | 2 => rw [e2]; rfl
  | 3 => rw [e3]; rfl
  | 4 => rw [e4]; rfl
  | 5 => rw [e5]; rfl
  | 6 => rw [e6]; rfl
  | 7 => rw [e7]; rfl
  | 8 => rw [e8]; rfl
  | 9 => rw [e9]; rfl
  | 10 => rw [e10]; rfl
  | 11 => rw [e11]; rfl
  | i + 12 => rw [Array.getElem?_eq_none (by omega)]; rfl
end Go.Proofs.YtldhgdoeehnbjaaDoor
