/- The law SatMays, walked. -/
import Derived.Test.YtdepdceaojenoaaQFnRefSatMay
import Derived.Test.YtdepdceaojenoaaZk
namespace Go.Proofs.Ytdepdceaojenoaa
open Go.RowKit

theorem satMay_three (v : Int) (C : List (List Int)) : satMayN v C = 0 ∨ satMayN v C = 1 ∨ satMayN v C = 2 := by
  unfold satMayN
  repeat' split
  all_goals simp
set_option maxRecDepth 100000 in
set_option maxHeartbeats 8000000 in
theorem walk_SatMays (W : World) (v0 v1 : Value) (a0 : Arg Try.prog W 24 v0) (a1 : Arg Try.prog W 3 v1) :
    Calls Try.prog 3 #[v0, v1] W fun e W' => e = .returned (.bool true) ∧ Below W.heap.size W W' := by
  obtain ⟨v, s, C, rfl, h0, hv1, hv2⟩ := arg_question a0
  obtain ⟨m, rfl, hm1, hm2⟩ := arg_int a1
  obtain ⟨A, c, rfl, hlm, hat⟩ := h0.open_
  have H0 := Lib.hid h0
  have Hat := Lib.hid hat
  clear h0 hat a0 a1
  have x0 : ∀ w, (Instr.index 28 (.agg #[.int .i64 0, .int .i64 1, .int .i64 2]) (.int .i64 0)).run Try.prog w = .ok (.int .i64 0) w := fun _ => by kernel_rfl
  have x1 : ∀ w, (Instr.index 28 (.agg #[.int .i64 0, .int .i64 1, .int .i64 2]) (.int .i64 1)).run Try.prog w = .ok (.int .i64 1) w := fun _ => by kernel_rfl
  have x2 : ∀ w, (Instr.index 28 (.agg #[.int .i64 0, .int .i64 1, .int .i64 2]) (.int .i64 2)).run Try.prog w = .ok (.int .i64 2) w := fun _ => by kernel_rfl
  obtain ⟨N, hN⟩ : ∃ N, N = C.length := ⟨_, rfl⟩
  have HN := Lib.hid hN
  rw [← hN] at hlm ⊢
  clear hN
  by_cases hl : 3000 < N
  · go_enter Try.func3, Try.ntmps3
    go_wp2_with (go_at_call 9; with_reducible refine (lives_any _).mono ?_; rintro e w2 ⟨rfl, hb2⟩)
    go_ret
    exact ⟨rfl, (below_alloc _ _).trans (hb2.mono (by simp))⟩
  have hz : decide ((3000 : Int) < (N : Int)) = false := decide_eq_false (by omega)
  obtain ⟨B0, hB0⟩ : ∃ B0, B0 = W.heap.size := ⟨_, rfl⟩
  have HB0 := Lib.hid hB0
  rw [← hB0]
  clear hB0
  go_enter Try.func3, Try.ntmps3
  go_wp2_with fail
  obtain ⟨w1, hw1⟩ : ∃ w1, w1 = W.alloc (.cells #[.int .i64 v, .slice A N c] 24) := ⟨_, rfl⟩
  have HB1 := Lib.hid (show Below W.heap.size W w1 by rw [hw1]; exact below_alloc _ _)
  have HX1 := Lib.hid (show w1.heap[W.heap.size]? = some (.cells #[.int .i64 v, .slice A N c] 24 (0, 0)) by rw [hw1]; exact heap_alloc_new _ _)
  have hs1 : W.heap.size < w1.heap.size := by rw [hw1]; simp
  have HS1 := Lib.hid (show RIntss w1 (Lt w1.heap.size) (.slice A N c) C by rw [HN.out]; exact RIntss.stable.up H0.out HB1.out)
  have q0 := cell_of_row _ _ 0 _ _ (0, 0) HX1.out
  have q1 := cell_of_row _ _ 1 _ _ (0, 0) HX1.out
  rw [← hw1]
  rw [← HB0.out] at HB1 HX1 hs1 q0 q1 ⊢
  clear hw1
  go_loop [19, 5] (fun iv nv => ∃ (i n : Nat), i ≤ N ∧ iv = .int .i64 i ∧ nv = .int .i64 n ∧ n ≤ 103000) (fun iv _ => N - (intOf iv).toNat)
  case atStart => exact ⟨0, 0, Nat.zero_le _, rfl, rfl, by omega⟩
  case round =>
    obtain ⟨i, n, hin, rfl, rfl, hn⟩ := hrel
    rcases Nat.lt_or_ge i N with hi | hi
    · have hi2 : i < C.length := by rw [← HN.out]; exact hi
      obtain ⟨b, off, u, rfl, hb, hu, hR⟩ := Hat.out.at_ RInts.stable (ag_of_below (HB0.out ▸ HB1.out)) hi2
      obtain ⟨A2, c2, rfl, hm2', -⟩ := hR.open_
      obtain ⟨L, hL⟩ : ∃ L, L = C[i].length := ⟨_, rfl⟩
      rw [← hL] at hu hm2'
      clear hR hL hb hi2
      by_cases h3 : 3000 < L
      · go_wp2_with (go_at_call 9; with_reducible refine (lives_any _).mono ?_; rintro e w2 ⟨rfl, hb2⟩)
        go_ret
        exact ⟨rfl, HB1.out.trans (hb2.mono (by omega))⟩
      by_cases h4 : 100000 < n
      · go_wp2_with (go_at_call 9; with_reducible refine (lives_any _).mono ?_; rintro e w2 ⟨rfl, hb2⟩)
        go_ret
        exact ⟨rfl, HB1.out.trans (hb2.mono (by omega))⟩
      go_wp2
      go_round
      case rel => exact ⟨i + 1, n + L, by omega, by go_num, by go_num, by omega⟩
      case measure => simp [intOf]; omega
    · obtain rfl : i = N := by omega
      have HR := Lib.hid (refSatMay_any v (.slice A i c) C w1 HS1.out)
      have HKw := Lib.hid (fun (W2 : World) (h : Below w1.heap.size w1 W2) => show (W2.cell? ⟨B0, 0, none⟩ = some (.int .i64 v) ∧ W2.cell? ⟨B0, 1, none⟩ = some (.slice A i c)) ∧ RIntss W2 (Lt W2.heap.size) (.slice A i c) C from
        ⟨⟨cell_of_row _ _ 0 _ _ (0, 0) ((h.block _ hs1).trans HX1.out), cell_of_row _ _ 1 _ _ (0, 0) ((h.block _ hs1).trans HX1.out)⟩, RIntss.stable.up HS1.out h⟩)
      obtain ⟨E, hE⟩ : ∃ E, E = satMayN v C := ⟨_, rfl⟩
      have h012 := satMay_three v C
      rw [← hE] at h012
      have HE := Lib.hid hE
      rw [← hE] at HR
      clear hE
      rcases h012 with rfl | rfl | rfl
      · rcases Int.lt_or_le m 0 with hm0 | hm0
        · have z1 : decide (m < 0) = true := decide_eq_true hm0
          go_wp2_with (first
            | (go_at_call 10; with_reducible refine HR.out.mono ?_; rintro e w2 ⟨rfl, b2⟩; go_loud (have HB2 := Lib.hid b2; obtain ⟨⟨k0, k1⟩, k2⟩ := HKw.out w2 b2; have HM2 := Lib.hid (satMay_any v (.slice A i c) C w2 k2); rw [← HE.out] at HM2; clear b2 k2))
            | (go_at_call 11; with_reducible refine HM2.out.mono ?_; rintro e w3 ⟨rfl, b3⟩; go_loud (have HB3 := Lib.hid (HB2.out.trans (b3.mono HB2.out.size)); obtain ⟨⟨k03, k13⟩, k23⟩ := HKw.out w3 (HB2.out.trans (b3.mono HB2.out.size)); have HS3 := Lib.hid (solve_neg (most := m) k23 HE.out.symm hm0); clear b3 k23))
            | (go_at_call 12; with_reducible refine HS3.out.mono ?_; rintro e w4 ⟨rfl, b4⟩; go_loud (have HB4 := Lib.hid (HB3.out.trans (b4.mono HB3.out.size)); clear b4; unfold noneV))
            | (go_at_call 9; with_reducible refine (lives_any _).mono ?_; rintro e w5 ⟨rfl, hb5⟩))
          go_ret
          exact ⟨rfl, HB1.out.trans (((HB4.out.alloc HB4.out.size _).trans (hb5.mono (by have := HB4.out.size; simp; omega))).mono (Nat.le_of_lt hs1))⟩
        · have z1 : decide (m < 0) = false := decide_eq_false (by omega)
          go_wp2_with (first
            | (go_at_call 10; with_reducible refine HR.out.mono ?_; rintro e w2 ⟨rfl, b2⟩; go_loud (have HB2 := Lib.hid b2; obtain ⟨⟨k0, k1⟩, k2⟩ := HKw.out w2 b2; have HM2 := Lib.hid (satMay_any v (.slice A i c) C w2 k2); rw [← HE.out] at HM2; clear b2 k2))
            | (go_at_call 11; with_reducible refine HM2.out.mono ?_; rintro e w3 ⟨rfl, b3⟩; go_loud (have HB3 := Lib.hid (HB2.out.trans (b3.mono HB2.out.size)); clear b3))
            | (go_at_call 9; with_reducible refine (lives_any _).mono ?_; rintro e w5 ⟨rfl, hb5⟩))
          go_ret
          exact ⟨rfl, HB1.out.trans ((HB3.out.trans (hb5.mono HB3.out.size)).mono (Nat.le_of_lt hs1))⟩
      · go_wp2_with (first
          | (go_at_call 10; with_reducible refine HR.out.mono ?_; rintro e w2 ⟨rfl, b2⟩; go_loud (have HB2 := Lib.hid b2; obtain ⟨⟨k0, k1⟩, k2⟩ := HKw.out w2 b2; have HM2 := Lib.hid (satMay_any v (.slice A i c) C w2 k2); rw [← HE.out] at HM2; clear b2 k2))
          | (go_at_call 11; with_reducible refine HM2.out.mono ?_; rintro e w3 ⟨rfl, b3⟩; go_loud (have HB3 := Lib.hid (HB2.out.trans (b3.mono HB2.out.size)); obtain ⟨⟨k03, k13⟩, k23⟩ := HKw.out w3 (HB2.out.trans (b3.mono HB2.out.size)); have HS3 := Lib.hid (solve_bad (n := v) (most := m) k23 (by rw [← HE.out]; omega)); rw [← HE.out] at HS3; clear b3 k23))
          | (go_at_call 12; with_reducible refine HS3.out.mono ?_; rintro e w4 ⟨rfl, b4⟩; go_loud (have HB4 := Lib.hid (HB3.out.trans (b4.mono HB3.out.size)); clear b4; unfold noneV))
          | (go_at_call 9; with_reducible refine (lives_any _).mono ?_; rintro e w5 ⟨rfl, hb5⟩))
        go_ret
        exact ⟨rfl, HB1.out.trans (((HB4.out.alloc HB4.out.size _).trans (hb5.mono (by have := HB4.out.size; simp; omega))).mono (Nat.le_of_lt hs1))⟩
      · go_wp2_with (first
          | (go_at_call 10; with_reducible refine HR.out.mono ?_; rintro e w2 ⟨rfl, b2⟩; go_loud (have HB2 := Lib.hid b2; obtain ⟨⟨k0, k1⟩, k2⟩ := HKw.out w2 b2; have HM2 := Lib.hid (satMay_any v (.slice A i c) C w2 k2); rw [← HE.out] at HM2; clear b2 k2))
          | (go_at_call 11; with_reducible refine HM2.out.mono ?_; rintro e w3 ⟨rfl, b3⟩; go_loud (have HB3 := Lib.hid (HB2.out.trans (b3.mono HB2.out.size)); obtain ⟨⟨k03, k13⟩, k23⟩ := HKw.out w3 (HB2.out.trans (b3.mono HB2.out.size)); have HS3 := Lib.hid (solve_bad (n := v) (most := m) k23 (by rw [← HE.out]; omega)); rw [← HE.out] at HS3; clear b3 k23))
          | (go_at_call 12; with_reducible refine HS3.out.mono ?_; rintro e w4 ⟨rfl, b4⟩; go_loud (have HB4 := Lib.hid (HB3.out.trans (b4.mono HB3.out.size)); clear b4; unfold noneV))
          | (go_at_call 9; with_reducible refine (lives_any _).mono ?_; rintro e w5 ⟨rfl, hb5⟩))
        go_ret
        exact ⟨rfl, HB1.out.trans (((HB4.out.alloc HB4.out.size _).trans (hb5.mono (by have := HB4.out.size; simp; omega))).mono (Nat.le_of_lt hs1))⟩
end Go.Proofs.Ytdepdceaojenoaa
