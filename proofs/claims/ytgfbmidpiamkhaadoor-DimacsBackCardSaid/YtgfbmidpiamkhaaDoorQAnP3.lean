/- The reference's PrintAnswer; same of the law. -/
import Derived.Test.YtgfbmidpiamkhaaDoorQAnP2
import Derived.Test.YtgfbmidpiamkhaaDoorQDiK1
namespace Go.Proofs.YtgfbmidpiamkhaaDoor
open Go.RowKit
open C01 D28

theorem tlit_len {T : List Bool} (h : T.length ≤ 300) (k : Nat) : (((tnums T).take k).flatMap litT).length ≤ 6900 := by
  have h1 := lits_len (c := (tnums T).take k) fun n hn => tnums_ok h n (List.mem_of_mem_take hn)
  rw [List.length_take, tnums_len] at h1
  have : 23 * min k T.length ≤ 23 * 300 := Nat.mul_le_mul_left _ (by omega)
  omega
theorem litT_neg (k : Nat) : litT (-((k : Int) + 1)) = [45] ++ (numL ((k : Int) + 1) ++ [32]) := by
  unfold litT numL
  rw [if_pos (by omega), if_neg (by omega), show (-(-((k : Int) + 1))).toNat = ((k : Int) + 1).toNat by omega]
  rfl
set_option maxRecDepth 100000 in
set_option maxHeartbeats 8000000 in
theorem refPrintAnswer_any (E C : Int) (vT vP : Value) (T : List Bool) (w : World) (hT : RBools w (Lt w.heap.size) vT T) (hl : T.length ≤ 300) : Calls Tryd.prog 23 #[.agg #[.int .i64 E, vT, vP, .int .i64 C]] w fun e w' => e = .returned (sv (printA E T)) ∧ Below w.heap.size w w' := by
  obtain ⟨w1, hw1⟩ : ∃ w1, w1 = w.alloc (.cells #[.int .i64 E, vT, vP, .int .i64 C] 47) := ⟨_, rfl⟩
  have hb1 : Below w.heap.size w w1 := by rw [hw1]; exact below_alloc _ _
  have hz1 : w1.heap.size = w.heap.size + 1 := by rw [hw1]; simp
  have c0 : w1.cell? ⟨w.heap.size, 0, none⟩ = some (.int .i64 E) := by rw [hw1]; exact box_cell (Below.refl _ _) 0
  have c1 : w1.cell? ⟨w.heap.size, 1, none⟩ = some vT := by rw [hw1]; exact box_cell (Below.refl _ _) 1
  have HW1 := Lib.hid hw1
  have HB1 := Lib.hid hb1
  have z0 : (⟨#[]⟩ : ByteArray) = bz [] := rfl
  have z1 : (⟨#[115, 32, 83, 65, 84, 73, 83, 70, 73, 65, 66, 76, 69, 10, 118, 32]⟩ : ByteArray) = bz (sSat ++ [118, 32]) := rfl
  have z2 : (⟨#[45]⟩ : ByteArray) = bz [45] := rfl
  have z3 : (⟨#[115, 32, 85, 78, 83, 65, 84, 73, 83, 70, 73, 65, 66, 76, 69, 10]⟩ : ByteArray) = bz ([115, 32] ++ unsatB ++ [10]) := rfl
  have z4 : (⟨#[115, 32, 85, 78, 75, 78, 79, 87, 78, 10]⟩ : ByteArray) = bz ([115, 32] ++ unkB ++ [10]) := rfl
  have z5 : (⟨#[32]⟩ : ByteArray) = bz [32] := rfl
  have z6 : (⟨#[48, 10]⟩ : ByteArray) = bz [48, 10] := rfl
  by_cases hE : E = 1
  case neg =>
    have hE1 : (E != 1) = true := bne_iff_ne.2 hE
    by_cases hE2 : E = 2
    · have hE2' : (E == 2) = true := by rw [beq_iff_eq]; exact hE2
      have Hr := Lib.hid (show printA E T = [115, 32] ++ unsatB ++ [10] by unfold printA; rw [if_neg hE, if_pos hE2])
      clear hE hE2 hw1 hb1 hz1
      go_enter Tryd.func23, Tryd.ntmps23
      rw [z0, z1, z2, z3, z4, z5, z6]
      go_upto_region 1 with fail
      rw [← HW1.out]
      go_wp2
      go_ret
      exact ⟨by rw [Hr.out]; rfl, HB1.out⟩
    · have hE2' : (E == 2) = false := by rw [beq_eq_false_iff_ne]; exact hE2
      have Hr := Lib.hid (show printA E T = [115, 32] ++ unkB ++ [10] by unfold printA; rw [if_neg hE, if_neg hE2])
      clear hE hE2 hw1 hb1 hz1
      go_enter Tryd.func23, Tryd.ntmps23
      rw [z0, z1, z2, z3, z4, z5, z6]
      go_upto_region 1 with fail
      rw [← HW1.out]
      go_wp2
      go_ret
      exact ⟨by rw [Hr.out]; rfl, HB1.out⟩
  subst hE
  have Hr := Lib.hid (show printA 1 T = (sSat ++ [118, 32]) ++ (tnums T).flatMap litT ++ [48, 10] by
    show sSat ++ [118, 32] ++ ((tnums T).flatMap litT ++ [48, 10]) = _
    simp only [List.append_assoc])
  obtain ⟨A, cv, rfl, hm, hat⟩ := RSl.open_ hT
  have Hat := Lib.hid hat
  obtain ⟨N, hN⟩ : ∃ N, N = T.length := ⟨_, rfl⟩
  rw [← hN] at c1 hm
  have HN := Lib.hid hN
  have Hacc := Lib.hid (tlit_len hl)
  have hl300 : N ≤ 300 := by omega
  have hs16 : (sSat ++ [118, 32]).length = 16 := by decide
  obtain ⟨pre, hpre⟩ : ∃ p, p = sSat ++ [118, 32] := ⟨_, rfl⟩
  rw [← hpre] at z1 Hr hs16
  have Hs16 := Lib.hid hs16
  clear hN hw1 hb1 hz1 hT hat hpre hl hs16
  go_enter Tryd.func23, Tryd.ntmps23
  rw [z0, z1, z2, z3, z4, z5, z6]
  go_upto_region 1 with fail
  rw [← HW1.out]
  go_wp2
  go_loopw [15, 3] (fun iv sv' wr => ∃ k : Nat, k ≤ N ∧ iv = .int .i64 k ∧ sv' = sv (pre ++ ((tnums T).take k).flatMap litT) ∧ Hid (Below w1.heap.size w1 wr)) (fun iv _ _ => N - (intOf iv).toNat)
  case atStart => exact ⟨0, Nat.zero_le _, rfl, by simp, Lib.hid (Below.refl _ _)⟩
  case round =>
    obtain ⟨k, hk, rfl, rfl, HB⟩ := hrel
    have hacc := Hacc.out k
    rcases Nat.lt_or_ge k N with hlt | hge
    · have hltT : k < T.length := by rw [← HN.out]; exact hlt
      obtain ⟨g, off, u, rfl, hg, hcell, hu⟩ := Hat.out.at_ RBool.stable (ag_of_below (HB1.out.trans (HB.out.mono HB1.out.size))) hltT
      obtain rfl := hu
      have Ht := Lib.hid (show pre ++ ((tnums T).take (k + 1)).flatMap litT = (pre ++ ((tnums T).take k).flatMap litT) ++ litT (if T[k] then (k : Int) + 1 else -((k : Int) + 1)) by rw [tnums_take hltT, List.flatMap_append]; simp)
      obtain ⟨t, ht⟩ : ∃ t, t = T[k] := ⟨_, rfl⟩
      rw [← ht] at hcell Ht
      obtain ⟨X, hX⟩ : ∃ X, X = pre ++ ((tnums T).take k).flatMap litT := ⟨_, rfl⟩
      have hXl : X.length ≤ 6916 := by rw [hX, List.length_append, Hs16.out]; omega
      rw [← hX] at Ht ⊢
      have hw1 : IntKind.i64.wrap ((k : Int) + 1) = (k : Int) + 1 := by rw [IntKind.wrap_i64]; omega
      have hn22 := numL_len (x := (k : Int) + 1) (by omega)
      have HNu := Lib.hid (fun w => refNumber_any ((k : Int) + 1) w ⟨by omega, by omega⟩)
      have Hlit := Lib.hid (litT_neg k)
      have Hlit2 := Lib.hid (show litT ((k : Int) + 1) = numL ((k : Int) + 1) ++ [32] from rfl)
      obtain ⟨nt, hnt⟩ : ∃ x, x = numL ((k : Int) + 1) := ⟨_, rfl⟩
      rw [← hnt] at hn22 HNu Hlit Hlit2
      have a0 := fun (w : World) => add_bz (P := Tryd.prog) (w := w) X [45] (by simp; omega)
      have a1 := fun (w : World) => add_bz (P := Tryd.prog) (w := w) nt [32] (by simp; omega)
      have a2 := fun (w : World) => add_bz (P := Tryd.prog) (w := w) X (nt ++ [32]) (by simp; omega)
      have a3 := fun (w : World) => add_bz (P := Tryd.prog) (w := w) (X ++ [45]) (nt ++ [32]) (by simp; omega)
      clear ht hX hnt hacc
      cases t with
      | true =>
        go_wp2_with (go_at_call 39; refine (HNu.out _).mono ?_; rintro e w3 ⟨rfl, hb3⟩; have H3 := Lib.hid (HB.out.trans (hb3.mono HB.out.size)); clear hb3)
        go_roundw
        case rel => exact ⟨k + 1, hlt, by go_num, by rw [Ht.out, if_pos trivial, Hlit2.out], H3⟩
        case measure => simp [intOf]; clear hw1; omega
      | false =>
        go_wp2_with (go_at_call 39; refine (HNu.out _).mono ?_; rintro e w3 ⟨rfl, hb3⟩; have H3 := Lib.hid (HB.out.trans (hb3.mono HB.out.size)); clear hb3)
        go_roundw
        case rel => exact ⟨k + 1, hlt, by go_num, by rw [Ht.out, if_neg (by simp), Hlit.out]; rfl, H3⟩
        case measure => simp [intOf]; clear hw1; omega
    · obtain rfl : k = N := by omega
      have Hr2 := Lib.hid (show printA 1 T = (pre ++ ((tnums T).take k).flatMap litT) ++ [48, 10] by rw [Hr.out, List.take_of_length_le (by rw [tnums_len, ← HN.out]; exact Nat.le_refl _)])
      obtain ⟨X, hX⟩ : ∃ X, X = pre ++ ((tnums T).take k).flatMap litT := ⟨_, rfl⟩
      have hXl : X.length ≤ 6916 := by rw [hX, List.length_append, Hs16.out]; omega
      rw [← hX] at Hr2 ⊢
      have a2 := fun (w : World) => add_bz (P := Tryd.prog) (w := w) X [48, 10] (by simp; omega)
      clear hX hge hacc
      go_wp2
      go_ret
      exact ⟨by rw [Hr2.out]; rfl, HB1.out.trans (HB.out.mono HB1.out.size)⟩
set_option maxRecDepth 100000 in
set_option maxHeartbeats 8000000 in
theorem sameA_any (E : Int) (v1 v2 : Value) (T : List Bool) (w : World) {S1 S2 : Nat → Prop} (h1 : RBools w S1 v1 T) (h2 : RBools w S2 v2 T) (hS1 : ∀ b, S1 b → b < w.heap.size) (hS2 : ∀ b, S2 b → b < w.heap.size) :
    Calls Tryd.prog 21 #[.agg #[.int .i64 E, v1, .slice none 0 0, .int .i64 0], .agg #[.int .i64 E, v2, .slice none 0 0, .int .i64 0]] w fun e w' => e = .returned (.bool true) ∧ Below w.heap.size w w' := by
  obtain ⟨A1, c1, rfl, hm1, hat1⟩ := RSl.open_ h1
  obtain ⟨A2, c2, rfl, hm2, hat2⟩ := RSl.open_ h2
  have Hat1 := Lib.hid hat1
  have Hat2 := Lib.hid hat2
  obtain ⟨w1, hw1⟩ : ∃ w1, w1 = (w.alloc (.cells #[.int .i64 E, .slice A1 T.length c1, .slice none 0 0, .int .i64 0] 47)).alloc (.cells #[.int .i64 E, .slice A2 T.length c2, .slice none 0 0, .int .i64 0] 47) := ⟨_, rfl⟩
  have hb1 : Below w.heap.size w w1 := by rw [hw1]; exact (below_alloc _ _).alloc (by simp) _
  have r0 : w1.heap[w.heap.size]? = some (.cells #[.int .i64 E, .slice A1 T.length c1, .slice none 0 0, .int .i64 0] 47 (0, 0)) := by rw [hw1]; exact heap_at_alloc (heap_alloc_new w _)
  have r1 : w1.heap[w.heap.size + 1]? = some (.cells #[.int .i64 E, .slice A2 T.length c2, .slice none 0 0, .int .i64 0] 47 (0, 0)) := by rw [hw1]; exact heap_new (by simp)
  obtain ⟨N, hN⟩ : ∃ N, N = T.length := ⟨_, rfl⟩
  have HN := Lib.hid hN
  rw [← hN] at r0 r1 hm1 hm2 hw1 ⊢
  have a0 := cell_of_row _ _ 0 _ _ _ r0
  have a1 := cell_of_row _ _ 1 _ _ _ r0
  have a2 := cell_of_row _ _ 2 _ _ _ r0
  have a3 := cell_of_row _ _ 3 _ _ _ r0
  have b0 := cell_of_row _ _ 0 _ _ _ r1
  have b1 := cell_of_row _ _ 1 _ _ _ r1
  have b2 := cell_of_row _ _ 2 _ _ _ r1
  have b3 := cell_of_row _ _ 3 _ _ _ r1
  have HW1 := Lib.hid hw1
  have HB1 := Lib.hid hb1
  clear hw1 hb1 r0 r1 hN hat1 hat2 h1 h2
  have hEE : (E != E) = false := by simp
  have hNN : ((N : Int) != N) = false := by simp
  go_enter Tryd.func21, Tryd.ntmps21
  go_upto_region 1 with fail
  rw [← HW1.out]
  go_wp2
  go_loopw [39] (fun sv wr => ∃ k : Nat, k ≤ N ∧ sv = .int .i64 k ∧ (∃ n, wr = w1.drewN n)) (fun sv _ => N - (intOf sv).toNat)
  case atStart => exact ⟨0, Nat.zero_le _, rfl, ⟨0, rfl⟩⟩
  case round =>
    obtain ⟨k, hk, rfl, ⟨n, rfl⟩⟩ := hrel
    rcases Nat.lt_or_ge k N with hlt | hge
    · have hltT : k < T.length := by rw [← HN.out]; exact hlt
      obtain ⟨g1, o1, u1, rfl, hg1, hcell1, hu1⟩ := Hat1.out.at_ RBool.stable (w' := w1) (fun b hb => HB1.out.block b (hS1 b hb)) hltT
      obtain ⟨g2, o2, u2, rfl, hg2, hcell2, hu2⟩ := Hat2.out.at_ RBool.stable (w' := w1) (fun b hb => HB1.out.block b (hS2 b hb)) hltT
      obtain rfl := hu1
      obtain rfl := hu2
      have hv : (T[k] != T[k]) = false := by simp
      obtain ⟨t, ht⟩ : ∃ t, t = T[k] := ⟨_, rfl⟩
      rw [← ht] at hcell1 hcell2 hv
      clear ht
      go_wp2
      go_quiet (fail)
      go_wp2
      go_roundw
      case rel => exact ⟨k + 1, hlt, by go_num, ⟨_, rfl⟩⟩
      case measure => simp [intOf]; omega
    · obtain rfl : k = N := by omega
      have Hf := Lib.hid (below_drewN HB1.out n)
      go_wp2
      go_ret
      exact ⟨rfl, Hf.out⟩
end Go.Proofs.YtgfbmidpiamkhaaDoor
