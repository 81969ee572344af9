/- lives(): are the document's examples as it says? -/
import Derived.Test.YtpgdioopkcfjdaaPrX10
import Derived.Test.YtpgdioopkcfjdaaPrD2
namespace Go.Proofs.Ytpgdioopkcfjdaa
open Go.RowKit

theorem lit2_own (w : World) (a b c d : Bs) : POwn (w.alloc (.cells #[sv a, sv b, sv c, sv d] 42)) w.heap.size (.slice (some ⟨w.heap.size, 0, none⟩) 2 2) [(a, b), (c, d)] :=
  World.ownsRow_lit (base := w.heap.size) (e := 42) (size := 2) w #[sv a, sv b, sv c, sv d] 2 (Nat.le_refl _) (by unfold maxLen; omega) rfl
theorem lit2_reads (w : World) (a b c d : Bs) : RProps (w.alloc (.cells #[sv a, sv b, sv c, sv d] 42)) (Lt (w.alloc (.cells #[sv a, sv b, sv c, sv d] 42)).heap.size) (.slice (some ⟨w.heap.size, 0, none⟩) 2 2) [(a, b), (c, d)] :=
  props_of_own (lit2_own w a b c d) fun g hg => ((lit2_own w a b c d).lt g hg).2
theorem liv1 : expP livL [] [120, 36, 123, 98, 125, 36, 123, 99, 125] = (.ok [120, 49, 46, 50, 36, 123, 99, 125], [([97], [49]), ([98], [49, 46, 50])]) := liv_first
theorem liv2 : badOf (expP livU [] [36, 123, 97, 125]).1 = some (22, [97]) := by rw [show expP livU [] [36, 123, 97, 125] = _ from liv_second]; rfl
set_option maxHeartbeats 2000000 in
theorem lives_any {m : Int} (w : World) (hm : MaxAt m w) : Calls Try.prog 17 #[] w fun e w' => e = .returned (.bool true) ∧ Below w.heap.size w w' := by
  have hpos := hm.lt
  have HM := Lib.hid hm
  have N1 := Lib.hid (fun w => New_any _ livL (w.alloc (.cells #[sv [97], sv [49], sv [98], sv [36, 123, 97, 125, 46, 50]] 42)) (lit2_reads w _ _ _ _) (by decide))
  have N2 := Lib.hid (fun w => New_any _ livU (w.alloc (.cells #[sv [97], sv [36, 123, 98, 125], sv [98], sv [36, 123, 97, 125]] 42)) (lit2_reads w _ _ _ _) (by decide))
  have c1 : (⟨#[97]⟩ : ByteArray) = bz [97] := rfl
  have c2 : (⟨#[49]⟩ : ByteArray) = bz [49] := rfl
  have c3 : (⟨#[98]⟩ : ByteArray) = bz [98] := rfl
  have c4 : (⟨#[36, 123, 97, 125, 46, 50]⟩ : ByteArray) = bz [36, 123, 97, 125, 46, 50] := rfl
  have c5 : (⟨#[120, 36, 123, 98, 125, 36, 123, 99, 125]⟩ : ByteArray) = bz [120, 36, 123, 98, 125, 36, 123, 99, 125] := rfl
  have c6 : (⟨#[36, 123, 98, 125]⟩ : ByteArray) = bz [36, 123, 98, 125] := rfl
  have c7 : (⟨#[36, 123, 97, 125]⟩ : ByteArray) = bz [36, 123, 97, 125] := rfl
  have c8 : (⟨#[120, 49, 46, 50, 36, 123, 99, 125]⟩ : ByteArray) = bz [120, 49, 46, 50, 36, 123, 99, 125] := rfl
  have e1 : ((bz [120, 49, 46, 50, 36, 123, 99, 125]).toList == (bz [120, 49, 46, 50, 36, 123, 99, 125]).toList) = true := by rw [bz_beq]; rfl
  have e2 : ((bz [97]).toList == (bz [97]).toList) = true := by rw [bz_beq]; rfl
  clear hm
  go_enter Try.func17, Try.ntmps17
  go_wp2_with (first
    | (go_at_call 12; with_reducible refine (N1.out w).mono ?_; rintro e w1 ⟨T, R, Dn, lv, rfl, h1, h2⟩; (have T1 := Lib.hid h1; have B1 := Lib.hid ((below_alloc w _).trans (h2.mono (by simp))); clear h1 h2))
    | (go_at_call 13; with_reducible refine (Expand_ok (m := m) (by simp) (by decide) _ _ _ w1 (HM.out.below B1.out hpos) T1.out (by decide) liv1).mono ?_; rintro e w2 ⟨rfl, h1, h2⟩; (have T2 := Lib.hid h1; have B2 := Lib.hid (B1.out.trans (h2.below (B := w.heap.size) (fun k hk => by have := chT_lo T1.out k hk; simp at this; omega) B1.out.size)); clear h1 h2))
    | (go_at_call 12; with_reducible refine (N2.out w2).mono ?_; rintro e w3 ⟨T', R', Dn', lv', rfl, h1, h2⟩; (have T3 := Lib.hid h1; have B3 := Lib.hid (B2.out.trans (((below_alloc w2 _).trans (h2.mono (by simp))).mono B2.out.size)); have T23 := Lib.hid (T2.out.new ((below_alloc w2 _).trans (h2.mono (by simp)))); clear h1 h2))
    | (go_at_call 13; with_reducible refine (Expand_bad (m := m) (by simp) (by decide) _ 22 [97] w3 (HM.out.below B3.out hpos) T3.out (by decide) (by decide) liv2).mono ?_; rintro e w4 ⟨rfl, h1, h2⟩; (have B4 := Lib.hid (B3.out.trans (h2.below (B := w.heap.size) (fun k hk => by have q := chT_lo T3.out k hk; have := B2.out.size; rw [World.size_alloc] at q; omega) B3.out.size)); have T4 := Lib.hid (T23.out.kp_lt T2.out h2 (fun k hk => by have := chT_lo T3.out k hk; simp at this; omega)); clear h1 h2))
    | (go_at_call 16; with_reducible refine (Known_any w4 T4.out).mono ?_; rintro e w5 ⟨rfl, rfl⟩))
  go_ret
  exact ⟨ret_bool (by unfold wrap64; decide), B4.out⟩
end Go.Proofs.Ytpgdioopkcfjdaa
