/- The law SatRight, walked. -/
import Derived.Test.YtdepdceaojenoaaZo
namespace Go.Proofs.Ytdepdceaojenoaa
open Go.RowKit

theorem may_le {v : Int} {C : List (List Int)} (h : satMayN v C = 0) : 0 ≤ v := by
  unfold satMayN at h
  split at h
  · cases h
  · split at h
    · cases h
    · split at h
      · cases h
      · omega
set_option maxRecDepth 100000 in
set_option maxHeartbeats 8000000 in
theorem walk_SatRight (W : World) (v0 v1 : Value) (a0 : Arg Try.prog W 24 v0) (a1 : Arg Try.prog W 3 v1) :
    Calls Try.prog 5 #[v0, v1] W fun e W' => e = .returned (.bool true) ∧ Below W.heap.size W W' := by
  obtain ⟨v, s, C, rfl, h0, hv1, hv2⟩ := arg_question a0
  obtain ⟨m, rfl, hm1, hm2⟩ := arg_int a1
  obtain ⟨A, c, rfl, hlm, -⟩ := h0.open_
  have H0 := Lib.hid h0
  clear h0 a0 a1
  obtain ⟨N, hN⟩ : ∃ N, N = C.length := ⟨_, rfl⟩
  have HN := Lib.hid hN
  rw [← hN] at hlm ⊢
  clear hN
  obtain ⟨B0, hB0⟩ : ∃ B0, B0 = W.heap.size := ⟨_, rfl⟩
  have HB0 := Lib.hid hB0
  obtain ⟨w1, hw1⟩ : ∃ w1, w1 = W.alloc (.cells #[.int .i64 v, .slice A N c] 24) := ⟨_, rfl⟩
  have Hw1 := Lib.hid hw1
  have HB1 := Lib.hid (show Below B0 W w1 by rw [hw1, hB0]; exact below_alloc _ _)
  have HX1 := Lib.hid (show w1.heap[B0]? = some (.cells #[.int .i64 v, .slice A N c] 24 (0, 0)) by rw [hw1, hB0]; exact heap_alloc_new _ _)
  have hs1 : B0 < w1.heap.size := by rw [hw1, hB0]; simp
  have HS1 := Lib.hid (show RIntss w1 (Lt w1.heap.size) (.slice A N c) C by rw [HN.out]; exact RIntss.stable.up H0.out (hB0 ▸ HB1.out))
  have HKw := Lib.hid (fun (W2 : World) (h : Below w1.heap.size w1 W2) => show (W2.cell? ⟨B0, 0, none⟩ = some (.int .i64 v) ∧ W2.cell? ⟨B0, 1, none⟩ = some (.slice A N c)) ∧ RIntss W2 (Lt W2.heap.size) (.slice A N c) C from
    ⟨⟨cell_of_row _ _ 0 _ _ (0, 0) ((h.block _ hs1).trans HX1.out), cell_of_row _ _ 1 _ _ (0, 0) ((h.block _ hs1).trans HX1.out)⟩, RIntss.stable.up HS1.out h⟩)
  have q0 := cell_of_row _ _ 0 _ _ (0, 0) HX1.out
  have q1 := cell_of_row _ _ 1 _ _ (0, 0) HX1.out
  rw [← hB0]
  clear hw1 hB0
  have HLt := Lib.hid (light_any v (.slice A N c) C w1 HS1.out)
  cases hlq : lightQ v C with
  | false =>
    rw [hlq] at HLt
    clear hlq
    go_enter Try.func5, Try.ntmps5
    go_wp2_with fail
    rw [← HB0.out, ← Hw1.out]
    go_wp2_with (first
      | (go_at_call 13; with_reducible refine HLt.out.mono ?_; rintro e w2 ⟨rfl, b2⟩; go_loud (have HB2 := Lib.hid (HB1.out.trans (b2.mono (Nat.le_of_lt hs1))); clear b2))
      | (go_at_call 9; with_reducible refine (lives_any _).mono ?_; rintro e w5 ⟨rfl, hb5⟩))
    go_ret
    exact ⟨rfl, HB2.out.trans (hb5.mono (by have := HB2.out.size; rw [← HB0.out] at this; exact this))⟩
  | true =>
    rw [hlq] at HLt
    clear hlq
    go_enter Try.func5, Try.ntmps5
    go_wp2_with fail
    rw [← HB0.out, ← Hw1.out]
    by_cases hv40 : 40 < v
    · go_wp2_with (first
        | (go_at_call 13; with_reducible refine HLt.out.mono ?_; rintro e w2 ⟨rfl, b2⟩; go_loud (have HB2 := Lib.hid (HB1.out.trans (b2.mono (Nat.le_of_lt hs1))); obtain ⟨⟨k0, k1⟩, -⟩ := HKw.out w2 b2; clear b2))
        | (go_at_call 9; with_reducible refine (lives_any _).mono ?_; rintro e w5 ⟨rfl, hb5⟩))
      go_ret
      exact ⟨rfl, HB2.out.trans (hb5.mono (by have := HB2.out.size; rw [← HB0.out] at this; exact this))⟩
    obtain ⟨E, hE⟩ : ∃ E, E = satMayN v C := ⟨_, rfl⟩
    have HE := Lib.hid hE
    by_cases hE0 : E = 0
    · have hE1 : satMayN v C = 0 := by rw [← hE]; exact hE0
      have hz : (((E : Nat) : Int) != 0) = false := by rw [hE0]; rfl
      have hvn := may_le hE1
      obtain ⟨n, rfl⟩ : ∃ n : Nat, v = n := ⟨v.toNat, by omega⟩
      obtain ⟨mm, hmm⟩ : ∃ mm : Nat, (mm : Int) = max 0 (min m 60) := ⟨(max 0 (min m 60)).toNat, by omega⟩
      have hmm6 : mm ≤ 60 := by omega
      have HE1 := Lib.hid hE1
      clear hE hE0 hE1
      go_upto_region 4 with (first
        | (go_at_call 13; with_reducible refine HLt.out.mono ?_; rintro e w2 ⟨rfl, b2⟩; go_loud (have HBw := Lib.hid b2; obtain ⟨⟨k0, k1⟩, k2⟩ := HKw.out w2 b2; have HM2 := Lib.hid (refSatMay_any (n : Int) (.slice A N c) C w2 k2); rw [← HE.out] at HM2; clear b2 k2))
        | (go_at_call 10; with_reducible refine HM2.out.mono ?_; rintro e w3 ⟨rfl, b3⟩; go_loud (have HB3 := Lib.hid (HBw.out.trans (b3.mono HBw.out.size)); clear k0 k1; obtain ⟨⟨k0, k1⟩, k2⟩ := HKw.out w3 (HBw.out.trans (b3.mono HBw.out.size)); have HS3 := Lib.hid (solve_law k2 HE1.out (most := mm) (by omega) (forget_200 (by omega))); clear b3 k2)))
      rw [show (if 0 < if 60 < m then 60 else m then if 60 < m then 60 else m else 0) = (mm : Int) by split <;> split <;> omega]
      clear hmm
      go_upto_region 5 with (go_at_call 12; with_reducible refine HS3.out.mono ?_; rintro e w4 ⟨a, ev, kv, A1, A2, n1, c1, n2, c2, rfl, ha, b4⟩; go_loud (have HA4 := Lib.hid ha; have HB4 := Lib.hid (HB3.out.trans (b4.mono HB3.out.size)); obtain ⟨g1, g2, g3, -, -, -⟩ := ha.nums; clear b4 ha))
      obtain ⟨w5, hw5⟩ : ∃ w5, w5 = w4.alloc (.cells #[.int .i64 ev, .slice A1 n1 c1, .slice A2 n2 c2, .int .i64 kv] 33) := ⟨_, rfl⟩
      have HB5 := Lib.hid (show Below w1.heap.size w1 w5 by rw [hw5]; exact HB4.out.alloc HB4.out.size _)
      have HX5 := Lib.hid (show w5.heap[w4.heap.size]? = some (.cells #[.int .i64 ev, .slice A1 n1 c1, .slice A2 n2 c2, .int .i64 kv] 33 (0, 0)) by rw [hw5]; exact heap_alloc_new _ _)
      have hs5 : w4.heap.size < w5.heap.size := by rw [hw5]; simp
      obtain ⟨⟨p0, p1⟩, p2⟩ := HKw.out w5 HB5.out
      have hb5 : Below w4.heap.size w4 w5 := by rw [hw5]; exact below_alloc _ _
      have HR5 := Lib.hid (right_any (n := n) p2 (HA4.out.rd.agree (S' := Lt w5.heap.size) ((ag_of_below hb5).sub fun b hb => hb.2) (fun b hb => Nat.lt_trans hb.2 hs5)) HE1.out (by omega : mm ≤ 2000000) HA4.out.ok HA4.out.pb)
      have x0 := cell_of_row _ _ 0 _ _ (0, 0) HX5.out
      have x1 := cell_of_row _ _ 1 _ _ (0, 0) HX5.out
      have x2 := cell_of_row _ _ 2 _ _ (0, 0) HX5.out
      have x3 := cell_of_row _ _ 3 _ _ (0, 0) HX5.out
      have HX6 := Lib.hid (fun (W2 : World) (h : Below w5.heap.size w5 W2) => show W2.heap[w4.heap.size]? = some (.cells #[.int .i64 ev, .slice A1 n1 c1, .slice A2 n2 c2, .int .i64 kv] 33 (0, 0)) from (h.block _ hs5).trans HX5.out)
      obtain ⟨d, hd⟩ : ∃ d, d = w4.heap.size := ⟨_, rfl⟩
      rw [← hd] at HX6 x0 x1 x2 x3 ⊢
      rw [hd, ← hw5, ← hd]
      clear p2 hb5 hw5 hd k0 k1 HS3 HA4 HX5
      obtain ⟨bb, hbb⟩ : ∃ bb, bb = (kv == (mm : Int) + 1) := ⟨_, rfl⟩
      rw [← hbb] at g3
      have z1 : decide (0 ≤ kv) = true := decide_eq_true g1
      have z2 : decide (kv ≤ (mm : Int) + 1) = true := decide_eq_true g2
      have z3 : (ev == 3) = bb := g3
      have z4 : (kv == (mm : Int) + 1) = bb := hbb.symm
      clear g3 hbb g1 g2
      go_wp2_with (first
        | (go_at_call 15; with_reducible refine HR5.out.mono ?_; rintro e w6 ⟨rfl, b6⟩; go_loud (have HB6 := Lib.hid (HB5.out.trans (b6.mono HB5.out.size)); have y6 := HX6.out w6 b6; have y0 := cell_of_row _ _ 0 _ _ (0, 0) y6; have y3 := cell_of_row _ _ 3 _ _ (0, 0) y6; clear b6 y6))
        | (go_at_call 9; with_reducible refine (lives_any _).mono ?_; rintro e w7 ⟨rfl, hb7⟩))
      all_goals go_ret
      all_goals exact ⟨rfl, HB1.out.trans ((HB6.out.trans (hb7.mono HB6.out.size)).mono (Nat.le_of_lt hs1))⟩
    · have hz : (((E : Nat) : Int) != 0) = true := bne_iff_ne.2 (by omega)
      clear hE hE0
      go_wp2_with (first
        | (go_at_call 13; with_reducible refine HLt.out.mono ?_; rintro e w2 ⟨rfl, b2⟩; go_loud (have HBw := Lib.hid b2; have HB2 := Lib.hid (HB1.out.trans (b2.mono (Nat.le_of_lt hs1))); obtain ⟨⟨k0, k1⟩, k2⟩ := HKw.out w2 b2; have HM2 := Lib.hid (refSatMay_any v (.slice A N c) C w2 k2); rw [← HE.out] at HM2; clear b2 k2))
        | (go_at_call 10; with_reducible refine HM2.out.mono ?_; rintro e w3 ⟨rfl, b3⟩; go_loud (have HB3 := Lib.hid (HB2.out.trans (b3.mono (by have := HB2.out.size; rw [← HB0.out] at this; exact this))); clear b3))
        | (go_at_call 9; with_reducible refine (lives_any _).mono ?_; rintro e w5 ⟨rfl, hb5⟩))
      go_ret
      exact ⟨rfl, HB3.out.trans (hb5.mono (by have := HB3.out.size; rw [← HB0.out] at this; exact this))⟩
end Go.Proofs.Ytdepdceaojenoaa
