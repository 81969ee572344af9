/- The law SatSolves, walked. -/
import Derived.Test.YtdepdceaojenoaaZr
import Derived.Test.YtdepdceaojenoaaZs
namespace Go.Proofs.Ytdepdceaojenoaa
open Go.RowKit

set_option maxRecDepth 100000 in
set_option maxHeartbeats 8000000 in
theorem walk_SatSolves (W : World) (v0 : Value) (a0 : Arg Try.prog W 24 v0) :
    Calls Try.prog 4 #[v0] W fun e W' => e = .returned (.bool true) ∧ Below W.heap.size W W' := by
  obtain ⟨v, s, C, rfl, h0, hv1, hv2⟩ := arg_question a0
  obtain ⟨A, c, rfl, hlm, -⟩ := h0.open_
  have H0 := Lib.hid h0
  clear h0 a0
  obtain ⟨N, hN⟩ : ∃ N, N = C.length := ⟨_, rfl⟩
  have HN := Lib.hid hN
  rw [← hN] at hlm ⊢
  clear hN
  obtain ⟨B0, hB0⟩ : ∃ B0, B0 = W.heap.size := ⟨_, rfl⟩
  have HB0 := Lib.hid hB0
  obtain ⟨w1, hw1⟩ : ∃ w1, w1 = W.alloc (.cells #[.int .i64 v, .slice A N c] 24) := ⟨_, rfl⟩
  have Hw1 := Lib.hid hw1
  have HB1 := Lib.hid (show Below B0 W w1 by rw [hw1, hB0]; exact below_alloc _ _)
  have HX1 := Lib.hid (show w1.heap[B0]? = some (.cells #[.int .i64 v, .slice A N c] 24 (0, 0)) by rw [hw1, hB0]; exact heap_alloc_new _ _)
  have hs1 : B0 < w1.heap.size := by rw [hw1, hB0]; simp
  have HS1 := Lib.hid (show RIntss w1 (Lt w1.heap.size) (.slice A N c) C by rw [HN.out]; exact RIntss.stable.up H0.out (hB0 ▸ HB1.out))
  have HKw := Lib.hid (fun (W2 : World) (h : Below w1.heap.size w1 W2) => show (W2.cell? ⟨B0, 0, none⟩ = some (.int .i64 v) ∧ W2.cell? ⟨B0, 1, none⟩ = some (.slice A N c)) ∧ RIntss W2 (Lt W2.heap.size) (.slice A N c) C from
    ⟨⟨cell_of_row _ _ 0 _ _ (0, 0) ((h.block _ hs1).trans HX1.out), cell_of_row _ _ 1 _ _ (0, 0) ((h.block _ hs1).trans HX1.out)⟩, RIntss.stable.up HS1.out h⟩)
  have q0 := cell_of_row _ _ 0 _ _ (0, 0) HX1.out
  have q1 := cell_of_row _ _ 1 _ _ (0, 0) HX1.out
  rw [← hB0]
  clear hw1 hB0
  have HLt := Lib.hid (light_any v (.slice A N c) C w1 HS1.out)
  have HLv := Lib.hid (fun (w2 : World) (h : Below w1.heap.size w1 w2) => show Calls Try.prog 9 #[] w2 fun e w' => e = .returned (.bool true) ∧ Below B0 W w' from
    (lives_any w2).mono fun e w' ⟨h1, h2⟩ => ⟨h1, HB1.out.trans ((h.trans (h2.mono h.size)).mono (Nat.le_of_lt hs1))⟩)
  cases hlq : lightQ v C with
  | false =>
    rw [hlq] at HLt
    clear hlq
    go_enter Try.func4, Try.ntmps4
    go_wp2_with fail
    rw [← HB0.out, ← Hw1.out]
    go_wp2_with (first
      | (go_at_call 13; with_reducible refine HLt.out.mono ?_; rintro e w2 ⟨rfl, b2⟩; go_loud (have HB2 := Lib.hid b2; clear b2))
      | (go_at_call 9; with_reducible refine (HLv.out _ HB2.out).mono ?_; rintro e w5 ⟨rfl, hb5⟩))
    go_ret
    exact ⟨rfl, hb5⟩
  | true =>
    rw [hlq] at HLt
    clear hlq
    go_enter Try.func4, Try.ntmps4
    go_wp2_with fail
    rw [← HB0.out, ← Hw1.out]
    by_cases hv10 : 10 < v
    · go_wp2_with (first
        | (go_at_call 13; with_reducible refine HLt.out.mono ?_; rintro e w2 ⟨rfl, b2⟩; go_loud (have HB2 := Lib.hid b2; obtain ⟨⟨k0, k1⟩, -⟩ := HKw.out w2 b2; clear b2))
        | (go_at_call 9; with_reducible refine (HLv.out _ HB2.out).mono ?_; rintro e w5 ⟨rfl, hb5⟩))
      go_ret
      exact ⟨rfl, hb5⟩
    obtain ⟨E, hE⟩ : ∃ E, E = satMayN v C := ⟨_, rfl⟩
    have HE := Lib.hid hE
    by_cases hE0 : E = 0
    · have hE1 : satMayN v C = 0 := by rw [← hE]; exact hE0
      have hz : (((E : Nat) : Int) != 0) = false := by rw [hE0]; rfl
      have hvn := may_nonneg hE1
      obtain ⟨n, rfl⟩ : ∃ n : Nat, v = n := ⟨v.toNat, by omega⟩
      have HE1 := Lib.hid hE1
      clear hE hE0 hE1
      go_upto_region 3 with (first
        | (go_at_call 13; with_reducible refine HLt.out.mono ?_; rintro e w2 ⟨rfl, b2⟩; go_loud (have HBw := Lib.hid b2; obtain ⟨⟨k0, k1⟩, k2⟩ := HKw.out w2 b2; have HM2 := Lib.hid (refSatMay_any (n : Int) (.slice A N c) C w2 k2); rw [← HE.out] at HM2; clear b2 k2))
        | (go_at_call 10; with_reducible refine HM2.out.mono ?_; rintro e w3 ⟨rfl, b3⟩; go_loud (have HB3 := Lib.hid (HBw.out.trans (b3.mono HBw.out.size)); clear k0 k1; obtain ⟨⟨k0, k1⟩, k2⟩ := HKw.out w3 (HBw.out.trans (b3.mono HBw.out.size)); have HS3 := Lib.hid (show Calls Try.prog 12 #[.agg #[.int .i64 (n : Int), .slice A N c], .int .i64 1048576] w3 _ from solve_law k2 HE1.out (most := 1048576) (by omega) (fun _ B S => forget_any B S)); clear b3 k2)))
      go_upto_region 4 with (go_at_call 12; with_reducible refine HS3.out.mono ?_; rintro e w4 ⟨a, ev, kv, A1, A2, n1, c1, n2, c2, rfl, ha, b4⟩; go_loud (have HA4 := Lib.hid ha; have HB4 := Lib.hid (HB3.out.trans (b4.mono HB3.out.size)); clear b4 ha))
      obtain ⟨w5, hw5⟩ : ∃ w5, w5 = w4.alloc (.cells #[.int .i64 ev, .slice A1 n1 c1, .slice A2 n2 c2, .int .i64 kv] 33) := ⟨_, rfl⟩
      have HB5 := Lib.hid (show Below w1.heap.size w1 w5 by rw [hw5]; exact HB4.out.alloc HB4.out.size _)
      have HX5 := Lib.hid (show w5.heap[w4.heap.size]? = some (.cells #[.int .i64 ev, .slice A1 n1 c1, .slice A2 n2 c2, .int .i64 kv] 33 (0, 0)) by rw [hw5]; exact heap_alloc_new _ _)
      have hs5 : w4.heap.size < w5.heap.size := by rw [hw5]; simp
      have hb5 : Below w4.heap.size w4 w5 := by rw [hw5]; exact below_alloc _ _
      have HV5 := Lib.hid (HA4.out.rd.agree (S' := Lt w5.heap.size) ((ag_of_below hb5).sub fun b hb => hb.2) (fun b hb => Nat.lt_trans hb.2 hs5))
      obtain ⟨d, hd⟩ : ∃ d, d = w4.heap.size := ⟨_, rfl⟩
      rw [← hd] at HX5 hs5 ⊢
      rw [hd, ← hw5, ← hd]
      clear hb5 hw5 hd k0 k1 HS3
      have hnum := HA4.out.nums
      obtain ⟨-, -, -, g3, g1, -⟩ := hnum
      have mf := may_facts HE1.out
      have hno := HA4.out.sr.not_opn mf.2.2.2 (by omega) (by have := mf.2.1; omega) (by omega)
      have hsm := ans_some mf.2.2.2 HA4.out.ok HA4.out.pb hno
      have z1 : (ev == 3) = false := by
        rw [g3]
        cases a with
        | opn k => exact (hno k rfl).elim
        | sat t k => rfl
        | unsat p k => rfl
      have z2 : (ev != 3) = true := by unfold bne; rw [z1]; rfl
      have z3 : (ev == 1) = someN C n := by
        rw [g1, hsm]
        cases a <;> rfl
      obtain ⟨sb, hsb⟩ : ∃ sb, sb = someN C n := ⟨_, rfl⟩
      have Hsb := Lib.hid hsb
      rw [← hsb] at z3
      clear g3 g1 mf hno hsm z1 hsb
      obtain ⟨⟨p0, p1⟩, p2⟩ := HKw.out w5 HB5.out
      have HSm := Lib.hid (Some_any (.slice A N c) C n (by omega) w5 p2)
      rw [← Hsb.out] at HSm
      clear p2
      go_upto_region 5 with (go_at_call 14; with_reducible refine HSm.out.mono ?_; rintro e w6 ⟨rfl, b6⟩; go_loud (have HB6 := Lib.hid (HB5.out.trans (b6.mono HB5.out.size)); have Hb6 := Lib.hid b6; clear b6))
      clear p0 p1
      obtain ⟨⟨p0, p1⟩, p2⟩ := HKw.out w6 HB6.out
      have HR6 := Lib.hid (right_any (n := n) p2 (HV5.out.agree (S' := Lt w6.heap.size) (ag_of_below Hb6.out) (fun b hb => Nat.lt_of_lt_of_le hb Hb6.out.size)) HE1.out (by omega : 1048576 ≤ 2000000) HA4.out.ok HA4.out.pb)
      have HX6 := Lib.hid (fun (W2 : World) (h : Below w6.heap.size w6 W2) => show W2.heap[d]? = some (.cells #[.int .i64 ev, .slice A1 n1 c1, .slice A2 n2 c2, .int .i64 kv] 33 (0, 0)) from ((Hb6.out.trans (h.mono Hb6.out.size)).block _ hs5).trans HX5.out)
      have y6 := HX6.out w6 (Below.refl _ _)
      have x0 := cell_of_row _ _ 0 _ _ (0, 0) y6
      have x1 := cell_of_row _ _ 1 _ _ (0, 0) y6
      have x2 := cell_of_row _ _ 2 _ _ (0, 0) y6
      have x3 := cell_of_row _ _ 3 _ _ (0, 0) y6
      clear p2 HA4 HV5 y6
      go_wp2_with (first
        | (go_at_call 15; with_reducible refine HR6.out.mono ?_; rintro e w7 ⟨rfl, b7⟩; go_loud (have HB7 := Lib.hid (HB6.out.trans (b7.mono HB6.out.size)); have y7 := HX6.out w7 b7; have y0 := cell_of_row _ _ 0 _ _ (0, 0) y7; clear b7 y7))
        | (go_at_call 9; with_reducible refine (HLv.out _ HB7.out).mono ?_; rintro e w8 ⟨rfl, hb8⟩))
      all_goals go_ret
      all_goals exact ⟨rfl, hb8⟩
    · have hz : (((E : Nat) : Int) != 0) = true := bne_iff_ne.2 (by omega)
      clear hE hE0
      go_wp2_with (first
        | (go_at_call 13; with_reducible refine HLt.out.mono ?_; rintro e w2 ⟨rfl, b2⟩; go_loud (have HBw := Lib.hid b2; obtain ⟨⟨k0, k1⟩, k2⟩ := HKw.out w2 b2; have HM2 := Lib.hid (refSatMay_any v (.slice A N c) C w2 k2); rw [← HE.out] at HM2; clear b2 k2))
        | (go_at_call 10; with_reducible refine HM2.out.mono ?_; rintro e w3 ⟨rfl, b3⟩; go_loud (have HB3 := Lib.hid (HBw.out.trans (b3.mono HBw.out.size)); clear b3))
        | (go_at_call 9; with_reducible refine (HLv.out _ HB3.out).mono ?_; rintro e w5 ⟨rfl, hb5⟩))
      go_ret
      exact ⟨rfl, hb5⟩
end Go.Proofs.Ytdepdceaojenoaa
