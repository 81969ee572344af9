/- lives() of package pomacelaw06. -/
import Derived.Test.YtldhgdoeehnbjaaDoorCoW5
import Derived.Test.YtldhgdoeehnbjaaDoorCoW6
namespace Go.Proofs.YtldhgdoeehnbjaaDoor
open Go.RowKit
open C01

theorem pcs_lives : pcs ⟨#[103, 58, 97, 58, 106, 97, 114, 58, 115, 114, 99]⟩ = [⟨#[103]⟩, ⟨#[97]⟩, ⟨#[106, 97, 114]⟩, ⟨#[115, 114, 99]⟩] := by decide +kernel
theorem parse_lives : parseK [⟨#[103]⟩, ⟨#[97]⟩, ⟨#[106, 97, 114]⟩, ⟨#[115, 114, 99]⟩] = some (⟨#[103]⟩, ⟨#[97]⟩, ⟨#[106, 97, 114]⟩, ⟨#[115, 114, 99]⟩) := by decide +kernel
theorem lives_any (m : Int) (w : World) (hm : w.cell? ⟨0, 0, none⟩ = some (.int .i64 m)) : Calls Tryd.prog 11 #[] w fun e w' => e = .returned (.bool true) ∧ Below w.heap.size w w' := by
  have H1 := Lib.hid (ParseKey_any ⟨#[103, 58, 97, 58, 106, 97, 114, 58, 115, 114, 99]⟩ m w (by decide) hm)
  rw [pcs_lives, parse_lives] at H1
  have H1 := Lib.hid (show Calls Tryd.prog 35 #[.string ⟨#[103, 58, 97, 58, 106, 97, 114, 58, 115, 114, 99]⟩] w fun e w' => e = .returned (.tuple #[.agg #[.string ⟨#[103]⟩, .string ⟨#[97]⟩, .string ⟨#[106, 97, 114]⟩, .string ⟨#[115, 114, 99]⟩], .int .i64 0]) ∧ Below w.heap.size w w' from H1.out)
  have D1 := Lib.hid (fun w => Derive_any 1 2 w)
  have D2 := Lib.hid (fun w => Derive_any 5 1 w)
  have D3 := Lib.hid (fun w => Derive_any 1 5 w)
  have V1 := Lib.hid (fun w => Visible_any 3 1 w (by decide))
  rw [show deriveI 1 2 = 2 from rfl] at D1
  rw [show deriveI 5 1 = 5 from rfl] at D2
  rw [show deriveI 1 5 = 0 from rfl] at D3
  rw [show visB 3 1 = true from rfl] at V1
  clear hm
  go_enter Tryd.func11, Tryd.ntmps11
  go_wp2_with (first
    | (go_at_call 35; with_reducible refine H1.out.mono ?_; rintro e w1 ⟨rfl, hb⟩; have HB := Lib.hid hb; clear hb)
    | (go_at_call 14; with_reducible refine (D1.out _).mono ?_; rintro e w2 ⟨rfl, rfl⟩)
    | (go_at_call 14; with_reducible refine (D2.out _).mono ?_; rintro e w2 ⟨rfl, rfl⟩)
    | (go_at_call 14; with_reducible refine (D3.out _).mono ?_; rintro e w2 ⟨rfl, rfl⟩)
    | (go_at_call 18; with_reducible refine (V1.out _).mono ?_; rintro e w2 ⟨rfl, rfl⟩))
  go_ret
  exact ⟨rfl, HB.out.alloc HB.out.size _⟩
end Go.Proofs.YtldhgdoeehnbjaaDoor
