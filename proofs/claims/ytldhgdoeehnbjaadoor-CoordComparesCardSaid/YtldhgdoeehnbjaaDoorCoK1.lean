/- CoordDerives: the law, walked. -/
import Derived.Test.YtldhgdoeehnbjaaDoorCoL
import Derived.Test.YtldhgdoeehnbjaaDoorCoW8
import Derived.Test.YtldhgdoeehnbjaaDoorArgC2
namespace Go.Proofs.YtldhgdoeehnbjaaDoor
open Go.RowKit

/-- the library's variable holds some number -/
def MaxAt (m : Int) (w : World) : Prop := w.cell? ⟨0, 0, none⟩ = some (.int .i64 m)
theorem MaxAt.up {m : Int} {w w' : World} (h : MaxAt m w) (hb : Below w.heap.size w w') : MaxAt m w' := (hb.cell (p := ⟨0, 0, none⟩) (World.block_lt_of_cell? _ _ h)).trans h
set_option maxHeartbeats 1000000 in
theorem walk_CoordDerives (m : Int) (W : World) (hm : MaxAt m W) (v0 v1 : Value) (a0 : Arg Tryd.prog W 3 v0) (a1 : Arg Tryd.prog W 3 v1) : Calls Tryd.prog 4 #[v0, v1] W fun e W' => e = .returned (.bool true) ∧ Below W.heap.size W W' := by
  obtain ⟨a, rfl, ha⟩ := arg_int a0
  obtain ⟨b, rfl, hb⟩ := arg_int a1
  clear a0 a1
  have H1 := Lib.hid (fun w => Derive_any a b w)
  have H2 := Lib.hid (fun w => refDerive_any a b w)
  have H3 := Lib.hid (fun w => Wider_any a b w ha hb)
  have H4 := Lib.hid (fun w => refWider_any a b w)
  have H5 := Lib.hid (fun w => Visible_any a b w ha)
  have H6 := Lib.hid (fun w => refVisible_any a b w)
  have HL := Lib.hid (fun w (hm : MaxAt m w) => lives_any m w hm)
  have HM := Lib.hid hm
  generalize deriveI a b = x at H1 H2
  generalize widerI a b = y at H3 H4
  generalize visB a b = z at H5 H6
  clear ha hb hm
  go_enter Tryd.func4, Tryd.ntmps4
  go_wp2_with (first
    | (go_at_call 14; with_reducible refine (H1.out _).mono ?_; rintro e w1 ⟨rfl, rfl⟩)
    | (go_at_call 15; with_reducible refine (H2.out _).mono ?_; rintro e w2 ⟨rfl, hb⟩; have HB := Lib.hid hb; clear hb)
    | (go_at_call 16; with_reducible refine (H3.out _).mono ?_; rintro e w1 ⟨rfl, rfl⟩)
    | (go_at_call 17; with_reducible refine (H4.out _).mono ?_; rintro e w1 ⟨rfl, rfl⟩)
    | (go_at_call 18; with_reducible refine (H5.out _).mono ?_; rintro e w1 ⟨rfl, rfl⟩)
    | (go_at_call 19; with_reducible refine (H6.out _).mono ?_; rintro e w3 ⟨rfl, hb⟩; have HB2 := Lib.hid (HB.out.trans (hb.mono HB.out.size)); clear hb)
    | (go_at_call 11; with_reducible refine (HL.out _ (HM.out.up HB2.out)).mono ?_; rintro e w4 ⟨rfl, hb⟩; have HB3 := Lib.hid (HB2.out.trans (hb.mono HB2.out.size)); clear hb))
  go_ret
  exact ⟨rfl, HB3.out⟩
end Go.Proofs.YtldhgdoeehnbjaaDoor
