/- The reference's Expand. -/
import Derived.Test.YtpgdioopkcfjdaaPrR3
namespace Go.Proofs.Ytpgdioopkcfjdaa
open Go.RowKit

set_option maxRecDepth 100000 in
set_option maxHeartbeats 4000000 in
theorem refExpand_any {B X : Nat} {lv : Value} {L : PL} (hL : ∀ p ∈ L, p.2.length ≤ 1000000) (hll : L.length ≤ 1000) (done : PL) (s : Bs) (w : World) (dv ov : Value) (bad : Int) (nm : Bs) (way : List Bs) (hr : RefAt w B X lv L dv done bad nm ov way) (hdn : DoneOK L done) (hs : s.length ≤ 1000000) :
    Calls Try.prog 15 #[.pointer (some ⟨X, 0, none⟩), sv s] w fun e w' => e = .returned (.tuple #[sv (okOf (expP L done s).1), .int .i64 (errOf (expP L done s).1), sv (nmOf (expP L done s).1)]) ∧
      (∃ dv' bad' nm' ov' way', RefAt w' B X lv L dv' (expP L done s).2 bad' nm' ov' way') ∧ Below B w w' := by
  obtain ⟨x, dn, hx⟩ : ∃ x dn, expP L done s = (x, dn) := ⟨_, _, rfl⟩
  rw [hx]
  obtain ⟨h1, b1⟩ := hr.put (bad' := 0) (nm' := nm) (dv' := dv) (ov' := ov) 2 (.int .i64 0) rfl hr.done hr.own
  obtain ⟨h2, b2⟩ := h1.put (bad' := 0) (nm' := []) (dv' := dv) (ov' := ov) 3 (sv []) rfl h1.done h1.own
  obtain ⟨h3, b3⟩ := h2.put (bad' := 0) (nm' := []) (dv' := dv) (ov' := .slice none 0 0) (way' := []) 5 (.slice none 0 0) rfl h2.done ⟨rfl, .inl ⟨rfl, rfl⟩⟩
  have HR3 := Lib.hid h3
  have HB3 := Lib.hid ((b1.trans b2).trans b3)
  have HX := Lib.hid (show txtP (fun done m => valP L 32 [] done m) L [] done [] s = (x, dn) from hx)
  have HT := Lib.hid (text_ref (rval hL hll 32) [] done s [] _ _ _ rfl (fun _ h => by cases h) hdn h3 hs)
  obtain ⟨-, -, k2, k3, k5, kf⟩ := hr.cells
  have c0 : (⟨#[]⟩ : ByteArray) = bz [] := rfl
  clear h1 h2 h3 b1 b2 b3 hx hr hdn
  cases x with
  | ok v =>
    have c1 : ((0 : Int) != 0) = false := rfl
    go_enter Try.func15, Try.ntmps15
    go_wp2_with (go_at_call 32; (with_reducible refine HT.out.mono ?_); rintro e w8 ho; rw [HX.out] at ho; obtain ⟨y, dv8, ov8, way8, rfl, hyl, h1, h2, h3⟩ := ho; obtain ⟨rfl, rfl⟩ := h3 _ rfl; (have HR8 := Lib.hid (show RefAt w8 B X lv L dv8 dn 0 [] ov8 _ from h1); have HB8 := Lib.hid (HB3.out.trans h2); obtain ⟨-, -, p2, p3, -, -⟩ := HR8.out.cells; clear h1 h2 h3))
    go_ret3
    exact ⟨rfl, ⟨_, _, _, _, _, HR8.out⟩, HB8.out⟩
  | loop n =>
    have c1 : ((22 : Int) != 0) = true := rfl
    go_enter Try.func15, Try.ntmps15
    go_wp2_with (go_at_call 32; (with_reducible refine HT.out.mono ?_); rintro e w8 ho; rw [HX.out] at ho; obtain ⟨y, dv8, ov8, way8, rfl, hyl, h1, h2, h3⟩ := ho; (have HR8 := Lib.hid (show RefAt w8 B X lv L dv8 dn 22 n ov8 _ from h1); have HB8 := Lib.hid (HB3.out.trans h2); obtain ⟨-, -, p2, p3, -, -⟩ := HR8.out.cells; clear h1 h2 h3))
    go_region
    go_wp2
    go_ret3
    exact ⟨rfl, ⟨_, _, _, _, _, HR8.out.new (Below.refl _ _).drew⟩, HB8.out.drew⟩
  | big n =>
    have c1 : ((2 : Int) != 0) = true := rfl
    go_enter Try.func15, Try.ntmps15
    go_wp2_with (go_at_call 32; (with_reducible refine HT.out.mono ?_); rintro e w8 ho; rw [HX.out] at ho; obtain ⟨y, dv8, ov8, way8, rfl, hyl, h1, h2, h3⟩ := ho; (have HR8 := Lib.hid (show RefAt w8 B X lv L dv8 dn 2 n ov8 _ from h1); have HB8 := Lib.hid (HB3.out.trans h2); obtain ⟨-, -, p2, p3, -, -⟩ := HR8.out.cells; clear h1 h2 h3))
    go_region
    go_wp2
    go_ret3
    exact ⟨rfl, ⟨_, _, _, _, _, HR8.out.new (Below.refl _ _).drew⟩, HB8.out.drew⟩
end Go.Proofs.Ytpgdioopkcfjdaa
