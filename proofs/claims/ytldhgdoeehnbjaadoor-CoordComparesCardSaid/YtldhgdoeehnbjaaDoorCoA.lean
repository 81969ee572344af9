/- What ids, projects and keys that are handed to a law hold. -/
import Derived.Test.YtldhgdoeehnbjaaDoorArgT
namespace Go.Proofs.YtldhgdoeehnbjaaDoor
open Go.RowKit Go.ChangeShapes Go.WideShapes Go.ChangeAt Go.Deep
theorem arg_id {w : World} {v : Value} (h : Arg Tryd.prog w 23 v) : ∃ a b, v = .agg #[.string a, .string b] := by
  obtain ⟨cs, rfl, hs, hc⟩ := arg_texts (n := 2) h Tryd.underlying23 (by kernel_rfl) (fun i hi => by
    match i, hi with
    | 0, _ => exact ⟨_, rfl, rfl, rfl⟩
    | 1, _ => exact ⟨_, rfl, rfl, rfl⟩)
  obtain ⟨a, b, rfl⟩ := two_of hs hc
  exact ⟨a, b, rfl⟩
theorem arg_gav {w : World} {v : Value} (h : Arg Tryd.prog w 35 v) : ∃ a b c, v = .agg #[.string a, .string b, .string c] := by
  obtain ⟨cs, rfl, hs, hc⟩ := arg_texts (n := 3) h Tryd.underlying35 (by kernel_rfl) (fun i hi => by
    match i, hi with
    | 0, _ => exact ⟨_, rfl, rfl, rfl⟩
    | 1, _ => exact ⟨_, rfl, rfl, rfl⟩
    | 2, _ => exact ⟨_, rfl, rfl, rfl⟩)
  obtain ⟨a, b, c, rfl⟩ := three_of hs hc
  exact ⟨a, b, c, rfl⟩
theorem arg_key {w : World} {v : Value} (h : Arg Tryd.prog w 30 v) : ∃ a b c d, v = .agg #[.string a, .string b, .string c, .string d] := by
  obtain ⟨cs, rfl, hs, hc⟩ := arg_texts (n := 4) h Tryd.underlying30 (by kernel_rfl) (fun i hi => by
    match i, hi with
    | 0, _ => exact ⟨_, rfl, rfl, rfl⟩
    | 1, _ => exact ⟨_, rfl, rfl, rfl⟩
    | 2, _ => exact ⟨_, rfl, rfl, rfl⟩
    | 3, _ => exact ⟨_, rfl, rfl, rfl⟩)
  obtain ⟨a, b, c, d, rfl⟩ := four_of hs hc
  exact ⟨a, b, c, d, rfl⟩
end Go.Proofs.YtldhgdoeehnbjaaDoor
