/- lives() of package pomacelaw01. -/
import Derived.Test.YtnkbeaipgadphaaChW9
import Derived.Test.YtnkbeaipgadphaaChW4
namespace Go.Proofs.Ytnkbeaipgadphaa
open Go.RowKit
open C01

theorem ref1 : refR ⟨#[38, 35, 120, 52, 49, 59, 98]⟩ = (⟨#[65]⟩, 6, 0) := by decide +kernel
theorem ref2 : refR ⟨#[38, 108, 116]⟩ = (⟨#[]⟩, 0, 13) := by decide +kernel
theorem ref3 : refR ⟨#[38, 108, 84, 59]⟩ = (⟨#[]⟩, 0, 12) := by decide +kernel
theorem esc1 : escL false [97, 60, 98] = [97, 38, 108, 116, 59, 98] := by decide +kernel
theorem at1 : Lib.lastIndexByte ((⟨#[97, 10, 98, 99]⟩ : ByteArray).extract 0 3) 10 = 1 ∧ Lib.countByte ((⟨#[97, 10, 98, 99]⟩ : ByteArray).extract 0 3).data.toList 10 = 1 := by decide +kernel
theorem lives_any (w : World) : Calls Try.prog 15 #[] w fun e w' => e = .returned (.bool true) ∧ Below w.heap.size w w' := by
  have H1 := Lib.hid (fun w => Ref_any ⟨#[38, 35, 120, 52, 49, 59, 98]⟩ w (by decide))
  have H2 := Lib.hid (fun w => Ref_any ⟨#[38, 108, 116]⟩ w (by decide))
  have H3 := Lib.hid (fun w => Ref_any ⟨#[38, 108, 84, 59]⟩ w (by decide))
  rw [ref1] at H1
  rw [ref2] at H2
  rw [ref3] at H3
  have H4 := Lib.hid (fun w => Escape_any ⟨#[97, 60, 98]⟩ false w (by decide))
  have H5 := Lib.hid (fun w => At_any ⟨#[97, 10, 98, 99]⟩ 3 3 w (by decide) (by decide))
  rw [at1.1, at1.2] at H5
  have H4 := Lib.hid (fun w => (H4.out w).mono (R' := fun e w' => e = .returned (.string ⟨#[97, 38, 108, 116, 59, 98]⟩) ∧ Below w.heap.size w w') (fun e w' h => ⟨h.1.trans (by rw [show (⟨#[97, 60, 98]⟩ : ByteArray).data.toList = [97, 60, 98] from rfl, esc1]), h.2⟩))
  go_enter Try.func15, Try.ntmps15
  go_wp2_with (first
    | (go_at_call 17; with_reducible refine (H1.out _).mono ?_; rintro e w1 ⟨rfl, hb1⟩; have B1 := Lib.hid hb1; clear hb1)
    | (go_at_call 17; with_reducible refine (H2.out _).mono ?_; rintro e w2 ⟨rfl, hb2⟩; have B2 := Lib.hid hb2; clear hb2)
    | (go_at_call 17; with_reducible refine (H3.out _).mono ?_; rintro e w3 ⟨rfl, hb3⟩; have B3 := Lib.hid hb3; clear hb3)
    | (go_at_call 19; with_reducible refine (H4.out _).mono ?_; rintro e w4 ⟨rfl, hb4⟩; have B4 := Lib.hid hb4; clear hb4)
    | (go_at_call 21; with_reducible refine (H5.out _).mono ?_; rintro e w5 ⟨rfl, hb5⟩; have B5 := Lib.hid hb5; clear hb5))
  trace_state
  go_ret
  exact ⟨rfl, B1.out.trans ((B2.out.mono B1.out.size).trans ((B3.out.mono (Nat.le_trans B1.out.size B2.out.size)).trans ((B4.out.mono (Nat.le_trans (Nat.le_trans B1.out.size B2.out.size) B3.out.size)).trans (B5.out.mono (Nat.le_trans (Nat.le_trans (Nat.le_trans B1.out.size B2.out.size) B3.out.size) B4.out.size)))))⟩
end Go.Proofs.Ytnkbeaipgadphaa
