/- dimacs.number; the reference's Number. -/
import Derived.Test.YtgfbmidpiamkhaaDoorDiP1
import Derived.Deep.RegionHeld
import Derived.Test.YtgfbmidpiamkhaaDoorTakeD
namespace Go.Proofs.YtgfbmidpiamkhaaDoor
open Go.RowKit
open D28

theorem digL_len {n : Nat} (h : n < 100000000000000000000) : (digL n).length ≤ 21 := by
  unfold digL; rw [List.length_map, List.length_reverse]; exact rdN_len 20 n (by omega)
theorem digL_small {n : Nat} (h : n < 10) : digL n = [UInt8.ofNat (48 + n)] := by
  unfold digL; rw [rdN_eq, if_neg (by omega)]; simp [Nat.mod_eq_of_lt h]
theorem digL_more {n : Nat} (h : 10 ≤ n) : digL n = digL (n / 10) ++ [UInt8.ofNat (48 + n % 10)] := by
  unfold digL; rw [rdN_eq, if_pos h]; simp
theorem add_bz {P : Program} {w : World} (a b : Bs) (h : a.length + b.length ≤ 9000000000000000000) : (Op.stringOp .add (bz a) (bz b)).run P w = .ok (.string (bz (a ++ b))) w := by
  rw [run_string_add_sum (P := P) (w := w) (bz a) (bz b) (by rw [bz_size, bz_size]; omega), bz_append]
theorem number_any (x : Int) (w : World) (h : -9223372036854775808 ≤ x ∧ x ≤ 9223372036854775807) : Calls Tryd.prog 24 #[.int .i64 x] w fun e w' => e = .returned (sv (numL x)) ∧ Below w.heap.size w w' := by
  by_cases hx : x < 0
  · have hu : IntKind.u64.wrap x = x + 18446744073709551616 := by rw [IntKind.wrap_u64]; omega
    have hn : IntKind.u64.wrap (-(x + 18446744073709551616)) = (((-x).toNat : Nat) : Int) := by rw [IntKind.wrap_u64]; omega
    obtain ⟨d, hd⟩ : ∃ d, d = (-x).toNat := ⟨_, rfl⟩
    have HD := Lib.hid (fun w => digits_any d w (by omega))
    have Hr := Lib.hid (show numL x = 45 :: digL d by unfold numL; rw [if_pos hx, hd])
    have hadd := fun (w : World) => add_bz (P := Tryd.prog) (w := w) [45] (digL d) (by have := digL_len (n := d) (by omega); simp; omega)
    rw [← hd] at hn
    have hm : (⟨#[45]⟩ : ByteArray) = bz [45] := rfl
    clear hd
    go_enter Tryd.func24, Tryd.ntmps24
    rw [hm]
    go_wp2_with (go_at_call 44; refine (HD.out _).mono ?_; rintro e w1 ⟨rfl, hb⟩; have HB := Lib.hid hb; clear hb)
    go_ret
    rw [Hr.out]
    exact ⟨rfl, HB.out⟩
  · have hu : IntKind.u64.wrap x = ((x.toNat : Nat) : Int) := by rw [IntKind.wrap_u64]; omega
    obtain ⟨d, hd⟩ : ∃ d, d = x.toNat := ⟨_, rfl⟩
    have HD := Lib.hid (fun w => digits_any d w (by omega))
    have Hr := Lib.hid (show numL x = digL d by unfold numL; rw [if_neg hx, hd])
    rw [← hd] at hu
    clear hd
    go_enter Tryd.func24, Tryd.ntmps24
    go_wp2_with (go_at_call 44; refine (HD.out _).mono ?_; rintro e w1 ⟨rfl, hb⟩; have HB := Lib.hid hb; clear hb)
    go_ret
    rw [Hr.out]
    exact ⟨rfl, HB.out⟩
theorem conv_at {w : World} {g a : Nat} {z : Nat × Nat} (h : w.heap[g]? = some (.cells #[.int .u8 a] 5 z)) (ha : a < 256) : (convert 80 9 (.slice (some ⟨g, 0, none⟩) 1 1)).run Tryd.prog w = .ok (sv [UInt8.ofNat a]) w := by
  have := run_convert_bytes_back (P := Tryd.prog) w 80 9 5 ⟨g, 0, none⟩ 1 [UInt8.ofNat a] Tryd.underlying80 Tryd.underlying5 Tryd.underlying9 (by
    intro j hj
    have : j = 0 := by simp at hj; omega
    subst this
    rw [add_none, Nat.zero_add, cell_of_row _ _ 0 _ _ _ h]
    simp; omega)
  exact this
def NumPost (n : Nat) (w : World) (e : Ending) (w' : World) : Prop := e = .returned (sv (digL n)) ∧ Below w.heap.size w w'
set_option maxRecDepth 100000 in
set_option maxHeartbeats 4000000 in
theorem refNumber_nat (n : Nat) : ∀ (w : World), n < 1000000000000000000 → Calls Tryd.prog 39 #[.int .i64 n] w (NumPost n w) := by
  induction n using Nat.strongRecOn with
  | _ n ih =>
    intro w hn
    have hx : ¬ ((n : Int) < 0) := by omega
    by_cases h10 : n < 10
    · have HD := Lib.hid (digL_small h10)
      have h1 : (n : Int) < 10 := by omega
      have e1 : IntKind.i64.wrap (48 + (n : Int)) = ((48 + n : Nat) : Int) := by rw [IntKind.wrap_i64]; omega
      have e2 : IntKind.u8.wrap ((48 + n : Nat) : Int) = ((48 + n : Nat) : Int) := by rw [IntKind.wrap_u8]; omega
      obtain ⟨a, ha⟩ : ∃ a, a = 48 + n := ⟨_, rfl⟩
      rw [← ha] at e1 e2 HD
      have HC := Lib.hid (conv_at (heap_alloc_new w (.cells #[.int .u8 a] 5)) (by omega))
      have hcv := HC.out
      have HB := Lib.hid (below_alloc w (.cells #[.int .u8 (a : Int)] 5))
      clear ha ih
      go_enter Tryd.func39, Tryd.ntmps39
      go_wp2
      go_ret
      exact ⟨by rw [HD.out]; rfl, HB.out⟩
    · have HD := Lib.hid (digL_more (n := n) (by omega))
      have h1 : ¬ ((n : Int) < 10) := by omega
      obtain ⟨q, hq⟩ : ∃ q, q = n / 10 := ⟨_, rfl⟩
      obtain ⟨a, ha⟩ : ∃ a, a = 48 + n % 10 := ⟨_, rfl⟩
      have hqi : (n : Int) / 10 = (q : Int) := by omega
      have e0 : (n : Int) % 10 = ((a : Int) - 48) := by omega
      have em : (n : Int).tmod 10 = ((a : Int) - 48) := by rw [Int.tmod_eq_emod_of_nonneg (by omega)]; omega
      have eqw : IntKind.i64.wrap (q : Int) = (q : Int) := by rw [IntKind.wrap_i64]; omega
      have e1 : IntKind.i64.wrap (48 + ((a : Int) - 48)) = (a : Int) := by rw [IntKind.wrap_i64]; omega
      have e2 : IntKind.u8.wrap (a : Int) = (a : Int) := by rw [IntKind.wrap_u8]; omega
      rw [← hq, ← ha] at HD
      have HN := Lib.hid (fun w => (ih q (by omega) w (by omega)))
      have Hadd := Lib.hid (fun (w : World) => add_bz (P := Tryd.prog) (w := w) (digL q) [UInt8.ofNat a] (by have := digL_len (n := q) (by omega); simp; omega))
      have HC := Lib.hid (fun (w : World) (g : Nat) (z : Nat × Nat) (h : w.heap[g]? = some (.cells #[.int .u8 a] 5 z)) => conv_at h (by omega))
      clear ha hq ih
      go_enter Tryd.func39, Tryd.ntmps39
      go_wp2
      refine wp_region_held_drew (S := (fun _ => True)) (by kernel_rfl) trivial (fun hHeld => ?_)
      refine wpAnyH_take (i := 0) (v := ?_) rfl (by kernel_rfl) (by kernel_rfl) (by kernel_rfl) (fun _ _ _ h => h) (Or.inl ⟨by rfl, ?_⟩) (by assumption) ?_
      rotate_left
      · intro w1 hSw
        (try dsimp only at hSw)
        go_simp
        (try with_reducible rfl)
      (try dsimp only [Act.put, List.setIfInBounds_toArray, List.set_cons_zero, List.set_cons_succ])
      refine wpAnyH_take (i := 1) (v := ?_) rfl (by kernel_rfl) (by kernel_rfl) (by kernel_rfl) (fun _ _ _ h => h) (Or.inl ⟨by rfl, ?_⟩) (by assumption) ?_
      rotate_left
      · intro w1 hSw
        (try dsimp only at hSw)
        go_simp
        (try with_reducible rfl)
      (try dsimp only [Act.put, List.setIfInBounds_toArray, List.set_cons_zero, List.set_cons_succ])
      refine wpAnyH_take (i := 3) (v := ?_) rfl (by kernel_rfl) (by kernel_rfl) (by kernel_rfl) (fun _ _ _ h => h) (Or.inl ⟨by rfl, ?_⟩) (by assumption) ?_
      rotate_left
      · intro w1 hSw
        (try dsimp only at hSw)
        go_simp
        (try with_reducible rfl)
      (try dsimp only [Act.put, List.setIfInBounds_toArray, List.set_cons_zero, List.set_cons_succ])
      refine wpAnyH_take (i := 4) (v := ?_) rfl (by kernel_rfl) (by kernel_rfl) (by kernel_rfl) (fun _ _ _ h => h) (Or.inl ⟨by rfl, ?_⟩) (by assumption) ?_
      rotate_left
      · intro w1 hSw
        (try dsimp only at hSw)
        go_simp
        (try with_reducible rfl)
      (try dsimp only [Act.put, List.setIfInBounds_toArray, List.set_cons_zero, List.set_cons_succ])
      refine wpAnyH_take (i := 5) (v := ?_) rfl (by kernel_rfl) (by kernel_rfl) (by kernel_rfl) (fun _ _ _ h => h) (Or.inl ⟨by rfl, ?_⟩) (by assumption) ?_
      rotate_left
      · intro w1 hSw
        (try dsimp only at hSw)
        go_simp
        (try with_reducible rfl)
      (try dsimp only [Act.put, List.setIfInBounds_toArray, List.set_cons_zero, List.set_cons_succ])
      refine wpAnyH_take (i := 6) (v := ?_) rfl (by kernel_rfl) (by kernel_rfl) (by kernel_rfl) (fun _ _ _ h => h) (Or.inl ⟨by rfl, ?_⟩) (by assumption) ?_
      rotate_left
      · intro w1 hSw
        (try dsimp only at hSw)
        go_simp
        (try with_reducible rfl)
      (try dsimp only [Act.put, List.setIfInBounds_toArray, List.set_cons_zero, List.set_cons_succ])
      have hadd := Hadd.out
      refine wpAnyH_ready (rs := [2, 7]) (by kernel_rfl) (by simp) ?_
      refine AllReadyH.cons rfl (fun K hK => ?_) (AllReadyH.cons rfl (fun K hK => ?_) AllReadyH.nil)
      · skip
        go_simp
        with_reducible refine (HN.out _).mono ?_
        rintro e w5 ⟨rfl, hb5⟩
        refine hK.out _ _ trivial (fun hHeld => ?_)
        clear hK K
        (try dsimp only [Act.put, List.setIfInBounds_toArray, List.set_cons_zero, List.set_cons_succ])
        refine wpAnyH_ready (rs := [7]) (by kernel_rfl) (by simp) ?_
        refine AllReadyH.cons rfl (fun K hK => ?_) AllReadyH.nil
        go_simp
        refine hK.out _ _ trivial (fun hHeld => ?_)
        clear hK K
        (try dsimp only [Act.put, List.setIfInBounds_toArray, List.set_cons_zero, List.set_cons_succ])
        have hcv := HC.out (w5.alloc (.cells #[.int .u8 (a : Int)] 5)) w5.heap.size _ (heap_alloc_new _ _)
        have HB := Lib.hid ((((Below.refl _ w).drew).trans hb5).alloc hb5.size (.cells #[.int .u8 (a : Int)] 5))
        refine wpAnyH_ready (rs := [8]) (by kernel_rfl) (by simp) ?_
        refine AllReadyH.cons rfl (fun K hK => ?_) AllReadyH.nil
        go_simp
        refine hK.out _ _ trivial (fun hHeld => ?_)
        clear hK K
        (try dsimp only [Act.put, List.setIfInBounds_toArray, List.set_cons_zero, List.set_cons_succ])
        refine wpAnyH_ready (rs := [9]) (by kernel_rfl) (by simp) ?_
        refine AllReadyH.cons rfl (fun K hK => ?_) AllReadyH.nil
        go_simp
        refine hK.out _ _ trivial (fun hHeld => ?_)
        clear hK K
        (try dsimp only [Act.put, List.setIfInBounds_toArray, List.set_cons_zero, List.set_cons_succ])
        refine take_d (i := 10) (v := ?_) 2 rfl rfl (by kernel_rfl) (by kernel_rfl) (by kernel_rfl) (fun _ _ _ h => h) (by kernel_rfl) ?_ (by assumption) ?_
        rotate_left
        · intro w1 hSw
          (try dsimp only at hSw)
          go_simp
          (try with_reducible rfl)
        (simp only [Act.put, List.setIfInBounds_toArray, List.set_cons_zero, List.set_cons_succ])
        refine wpAnyH_done (by kernel_rfl) ?_ _
        go_wp2
        go_ret
        exact ⟨by rw [HD.out]; rfl, HB.out⟩
      · skip
        go_simp
        refine hK.out _ _ trivial (fun hHeld => ?_)
        clear hK K
        (try dsimp only [Act.put, List.setIfInBounds_toArray, List.set_cons_zero, List.set_cons_succ])
        refine wpAnyH_ready (rs := [2, 8]) (by kernel_rfl) (by simp) ?_
        refine AllReadyH.cons rfl (fun K hK => ?_) (AllReadyH.cons rfl (fun K hK => ?_) AllReadyH.nil)
        · skip
          go_simp
          with_reducible refine (HN.out _).mono ?_
          rintro e w5 ⟨rfl, hb5⟩
          refine hK.out _ _ trivial (fun hHeld => ?_)
          clear hK K
          (try dsimp only [Act.put, List.setIfInBounds_toArray, List.set_cons_zero, List.set_cons_succ])
          have hrow := (hb5.block w.heap.size (by simp)).trans (heap_alloc_new w (.cells #[.int .u8 (a : Int)] 5))
          have hcv := HC.out w5 w.heap.size _ hrow
          have HB := Lib.hid (((Below.refl _ w).alloc (Nat.le_refl _) (.cells #[.int .u8 (a : Int)] 5)).drew.trans (hb5.mono (by simp)))
          refine wpAnyH_ready (rs := [8]) (by kernel_rfl) (by simp) ?_
          refine AllReadyH.cons rfl (fun K hK => ?_) AllReadyH.nil
          go_simp
          refine hK.out _ _ trivial (fun hHeld => ?_)
          clear hK K
          (try dsimp only [Act.put, List.setIfInBounds_toArray, List.set_cons_zero, List.set_cons_succ])
          refine wpAnyH_ready (rs := [9]) (by kernel_rfl) (by simp) ?_
          refine AllReadyH.cons rfl (fun K hK => ?_) AllReadyH.nil
          go_simp
          refine hK.out _ _ trivial (fun hHeld => ?_)
          clear hK K
          (try dsimp only [Act.put, List.setIfInBounds_toArray, List.set_cons_zero, List.set_cons_succ])
          refine take_d (i := 10) (v := ?_) 2 rfl rfl (by kernel_rfl) (by kernel_rfl) (by kernel_rfl) (fun _ _ _ h => h) (by kernel_rfl) ?_ (by assumption) ?_
          rotate_left
          · intro w1 hSw
            (try dsimp only at hSw)
            go_simp
            (try with_reducible rfl)
          (simp only [Act.put, List.setIfInBounds_toArray, List.set_cons_zero, List.set_cons_succ])
          refine wpAnyH_done (by kernel_rfl) ?_ _
          go_wp2
          go_ret
          exact ⟨by rw [HD.out]; rfl, HB.out⟩
        · skip
          have hcv := HC.out (w.alloc (.cells #[.int .u8 (a : Int)] 5)).drew w.heap.size _ (heap_alloc_new w (.cells #[.int .u8 (a : Int)] 5))
          go_simp
          refine hK.out _ _ trivial (fun hHeld => ?_)
          clear hK K
          (try dsimp only [Act.put, List.setIfInBounds_toArray, List.set_cons_zero, List.set_cons_succ])
          refine wpAnyH_ready (rs := [2]) (by kernel_rfl) (by simp) ?_
          refine AllReadyH.cons rfl (fun K hK => ?_) AllReadyH.nil
          go_simp
          with_reducible refine (HN.out _).mono ?_
          rintro e w5 ⟨rfl, hb5⟩
          refine hK.out _ _ trivial (fun hHeld => ?_)
          clear hK K
          (try dsimp only [Act.put, List.setIfInBounds_toArray, List.set_cons_zero, List.set_cons_succ])
          have HB := Lib.hid (((Below.refl _ w).alloc (Nat.le_refl _) (.cells #[.int .u8 (a : Int)] 5)).drew.trans (hb5.mono (by simp)))
          refine wpAnyH_ready (rs := [9]) (by kernel_rfl) (by simp) ?_
          refine AllReadyH.cons rfl (fun K hK => ?_) AllReadyH.nil
          go_simp
          refine hK.out _ _ trivial (fun hHeld => ?_)
          clear hK K
          (try dsimp only [Act.put, List.setIfInBounds_toArray, List.set_cons_zero, List.set_cons_succ])
          refine take_d (i := 10) (v := ?_) 2 rfl rfl (by kernel_rfl) (by kernel_rfl) (by kernel_rfl) (fun _ _ _ h => h) (by kernel_rfl) ?_ (by assumption) ?_
          rotate_left
          · intro w1 hSw
            (try dsimp only at hSw)
            go_simp
            (try with_reducible rfl)
          (simp only [Act.put, List.setIfInBounds_toArray, List.set_cons_zero, List.set_cons_succ])
          refine wpAnyH_done (by kernel_rfl) ?_ _
          go_wp2
          go_ret
          exact ⟨by rw [HD.out]; rfl, HB.out⟩
end Go.Proofs.YtgfbmidpiamkhaaDoor
