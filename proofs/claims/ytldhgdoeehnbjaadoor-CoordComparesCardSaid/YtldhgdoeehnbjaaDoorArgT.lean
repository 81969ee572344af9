/- What structs of texts that are handed to a law hold. -/
import Derived.Test.YtldhgdoeehnbjaaDoorArgC2
namespace Go.Proofs.YtldhgdoeehnbjaaDoor
open Go.RowKit Go.ChangeShapes Go.WideShapes Go.ChangeAt Go.Deep

theorem arg_texts {w : World} {v : Value} {t : TypeId} {fs : Array Field} {n : Nat} (h : Arg Tryd.prog w t v) (ht : Tryd.prog.underlying t = some (.struct fs)) (hc : Tryd.prog.cellsOf t = n)
    (hf : ∀ i, i < n → ∃ f, fs[i]? = some f ∧ f.offset = i ∧ f.type = 9) : ∃ cs : Array Value, v = .agg cs ∧ cs.size = n ∧ ∀ i, i < n → ∃ s, cs[i]? = some (.string s) := by
  obtain ⟨H, enc, base, d, p, hv, ⟨fuel, hr⟩, _⟩ := h
  obtain ⟨cs, rfl, hsz⟩ := okWide_struct ht hv
  rw [hc] at hsz
  obtain ⟨xs, m, _, _, _, hl, hx⟩ := DataW.trod_struct ht hr
  refine ⟨cs, rfl, hsz, fun i hi => ?_⟩
  obtain ⟨f, hfi, ho, hty⟩ := hf i hi
  have h1 := hx i f hfi
  have hlt : i < fs.size := (Array.getElem?_eq_some_iff.1 hfi).1
  rw [List.getElem?_eq_getElem (by omega), hty, ho] at h1
  have k1 : Tryd.prog.cellsOf 9 = 1 := by kernel_rfl
  obtain ⟨s, h2, _⟩ := DataW.trod_string Tryd.underlying9 h1
  refine ⟨s, ?_⟩
  rw [k1] at h2
  have h3 := congrArg (fun l : List Value => l[0]?) h2
  simpa [Value.cells, List.getElem?_take, List.getElem?_drop] using h3
theorem two_of {cs : Array Value} (h : cs.size = 2) (hs : ∀ i, i < 2 → ∃ s, cs[i]? = some (.string s)) : ∃ a b, cs = #[.string a, .string b] := by
  obtain ⟨a, h0⟩ := hs 0 (by omega)
  obtain ⟨b, h1⟩ := hs 1 (by omega)
  refine ⟨a, b, Array.ext' ?_⟩
  apply List.ext_getElem?
  intro i
  rw [Array.getElem?_toList]
  match i with
  | 0 => rw [h0]; rfl
  | 1 => rw [h1]; rfl
  | i + 2 => rw [Array.getElem?_eq_none (by omega)]; rfl
theorem three_of {cs : Array Value} (h : cs.size = 3) (hs : ∀ i, i < 3 → ∃ s, cs[i]? = some (.string s)) : ∃ a b c, cs = #[.string a, .string b, .string c] := by
  obtain ⟨a, h0⟩ := hs 0 (by omega)
  obtain ⟨b, h1⟩ := hs 1 (by omega)
  obtain ⟨c, h2⟩ := hs 2 (by omega)
  refine ⟨a, b, c, Array.ext' ?_⟩
  apply List.ext_getElem?
  intro i
  rw [Array.getElem?_toList]
  match i with
  | 0 => rw [h0]; rfl
  | 1 => rw [h1]; rfl
  | 2 => rw [h2]; rfl
  | i + 3 => rw [Array.getElem?_eq_none (by omega)]; rfl
theorem four_of {cs : Array Value} (h : cs.size = 4) (hs : ∀ i, i < 4 → ∃ s, cs[i]? = some (.string s)) : ∃ a b c d, cs = #[.string a, .string b, .string c, .string d] := by
  obtain ⟨a, h0⟩ := hs 0 (by omega)
  obtain ⟨b, h1⟩ := hs 1 (by omega)
  obtain ⟨c, h2⟩ := hs 2 (by omega)
  obtain ⟨d, h3⟩ := hs 3 (by omega)
  refine ⟨a, b, c, d, Array.ext' ?_⟩
  apply List.ext_getElem?
  intro i
  rw [Array.getElem?_toList]
  match i with
  | 0 => rw [h0]; rfl
  | 1 => rw [h1]; rfl
  | 2 => rw [h2]; rfl
  | 3 => rw [h3]; rfl
  | i + 4 => rw [Array.getElem?_eq_none (by omega)]; rfl
end Go.Proofs.YtldhgdoeehnbjaaDoor
