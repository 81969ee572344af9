/- The law CoreOnly, walked. -/
import Derived.Deep.RegionLaw
import Derived.Deep.RegionHeld
import Derived.Test.YtcebafeaikipmaaCb7
import Derived.Test.YtcebafeaikipmaaQCoreK2
import Derived.Test.YtcebafeaikipmaaQCoreW8
import Derived.Test.YtcebafeaikipmaaQTakeD
namespace Go.Proofs.Ytcebafeaikipmaa
open Go.RowKit

theorem neItem (i : ItemD) (W : World) : (binOp .neq 35 (.agg #[.string i.1.1, .string i.1.2.1, .string i.1.2.2.1, .string i.1.2.2.2, .string i.2]) (.agg #[.string i.1.1, .string i.1.2.1, .string i.1.2.2.1, .string i.1.2.2.2, .string i.2])).run Try.prog W = .ok (.bool false) W := by
  go_simp
set_option maxRecDepth 100000 in
set_option maxHeartbeats 8000000 in
theorem walk_CoreOnly (W : World) (v0 v1 : Value) (a0 : Arg Try.prog W 25 v0) (a1 : Arg Try.prog W 26 v1) : Calls Try.prog 3 #[v0, v1] W fun e W' => e = .returned (.bool true) ∧ Below W.heap.size W W' := by
  obtain ⟨s0, s1, r, items, wss, rfl, h0, h1, hr1, hr2⟩ := arg_deal a0
  obtain ⟨l, hl0⟩ := arg_slice a1 Try.underlying26 reads1_wants
  obtain ⟨A0, c0, rfl, hm0, -⟩ := h0.open_
  obtain ⟨A1, c1, rfl, hm1, -⟩ := h1.open_
  obtain ⟨AL, cL, rfl⟩ := hl0.shape
  have HL := Lib.hid hl0
  have HI0 := Lib.hid h0
  have HW0 := Lib.hid h1
  have HD := Lib.hid (DB.start (r := r) h0 h1)
  obtain ⟨d0, d1, d2⟩ := HD.out.cells
  clear h0 h1 a0 a1 hl0
  by_cases hl : lightC items.length wss = true
  case neg =>
    have Hl := Lib.hid (show lightC items.length wss = false by simpa using hl)
    clear hl
    go_enter Try.func3, Try.ntmps3
    go_wp2_with (first
      | (go_at_call 8; with_reducible refine (light27_any _ _ _ _ _ wss _ HD.out.rW).mono ?_; rintro e w1 ⟨rfl, hb⟩; rw [Hl.out]; have HD1 := Lib.hid (HD.out.up hb); obtain ⟨e0, e1, e2⟩ := HD1.out.cells; clear hb)
      | (go_at_call 9; with_reducible refine (lives_any _).mono ?_; rintro e w2 ⟨rfl, hb⟩; have HB2 := Lib.hid (HD1.out.up hb).bel; clear hb))
    go_ret
    exact ⟨rfl, HB2.out⟩
  have Hl := Lib.hid hl
  clear hl
  by_cases h40 : 40 < l.length
  · go_enter Try.func3, Try.ntmps3
    go_wp2_with (first
      | (go_at_call 8; with_reducible refine (light27_any _ _ _ _ _ wss _ HD.out.rW).mono ?_; rintro e w1 ⟨rfl, hb⟩; rw [Hl.out]; have HD1 := Lib.hid (HD.out.up hb); obtain ⟨e0, e1, e2⟩ := HD1.out.cells; clear hb)
      | (go_at_call 9; with_reducible refine (lives_any _).mono ?_; rintro e w2 ⟨rfl, hb⟩; have HB2 := Lib.hid (HD1.out.up hb).bel; clear hb))
    go_ret
    exact ⟨rfl, HB2.out⟩
  go_enter Try.func3, Try.ntmps3
  go_upto_region 3 with (first
    | (go_at_call 8; with_reducible refine (light27_any _ _ _ _ _ wss _ HD.out.rW).mono ?_; rintro e w1 ⟨rfl, hb⟩; rw [Hl.out]; have HD1 := Lib.hid (HD.out.up hb); obtain ⟨e0, e1, e2⟩ := HD1.out.cells; clear hb))
  have hWw : W.heap.size < w1.heap.size := World.block_lt_of_cell? w1 _ e0
  have HOn := Lib.hid (fun (Wc : World) (p5 p6 : Option Nat) (k2 : Option (Value × Value)) (hS : St w1 Wc p5 p6 none k2 items (onlyW l wss)) => show Calls Try.prog 10 #[.agg #[.slice A0 items.length c0, .slice A1 wss.length c1, .int .i64 r], .slice AL l.length cL] Wc fun e w3 => ∃ AI cI AW cW, e = .returned (.agg #[.slice AI items.length cI, .slice AW wss.length cW, .int .i64 r]) ∧ (w3.cell? ⟨W.heap.size, 0, none⟩ = some (.slice A0 items.length c0) ∧ w3.cell? ⟨W.heap.size, 1, none⟩ = some (.slice A1 wss.length c1) ∧ w3.cell? ⟨W.heap.size, 2, none⟩ = some (.int .i64 r)) ∧ W.heap.size < w3.heap.size ∧ Hid (St w1 w3 p5 p6 (some (.slice AI items.length cI, .slice AW wss.length cW)) k2 items (onlyW l wss)) by
    have h := hS.1
    have hbW := HD1.out.bel
    have hs1 := hbW.size
    have HDc := HD1.out.up h
    have hbc : Below W.heap.size W Wc := hbW.trans (h.mono hbW.size)
    have hfr := hS.fresh
    have hlo : ∀ b, b < W.heap.size → p5 ≠ some b ∧ p6 ≠ some b := fun b hb => hS.lo b (Nat.lt_of_lt_of_le hb hs1)
    obtain ⟨E, hE⟩ : ∃ E : Nat → Prop, E = fun b => p5 ≠ some b ∧ p6 ≠ some b := ⟨_, rfl⟩
    have hE1 : ∀ b, Wc.heap.size ≤ b → E b := fun b hb => by rw [hE]; exact hfr b hb
    have hE2 : ∀ b, b < W.heap.size → E b := fun b hb => by rw [hE]; exact hlo b hb
    refine (Only_E E (.slice A0 items.length c0) (.slice A1 wss.length c1) (.slice AL l.length cL) r items wss l Wc hE1 HDc.rI HDc.rW (RWants.stable.up HL.out hbc) (rows_of_light Hl.out).2.1 (rows_of_light Hl.out).1 (by have := (rows_of_light Hl.out).2.2.1; omega) (rows_of_light Hl.out).2.2.2).mono ?_
    rintro e w3 ⟨vI, vW, rfl, hI, hW, b3⟩
    obtain ⟨AI, cI, rfl⟩ := hI.shape
    obtain ⟨AW, cW, hvW⟩ := hW.shape
    rw [onlyW_len] at hvW
    subst hvW
    subst hE
    exact ⟨AI, cI, AW, cW, rfl, (HDc.up b3).cells, Nat.lt_of_lt_of_le hWw (Nat.le_trans h.size b3.size), Lib.hid (hS.called1 b3 hI hW)⟩)
  have HOr := Lib.hid (fun (Wc : World) (p5 p6 : Option Nat) (k1 : Option (Value × Value)) (hS : St w1 Wc p5 p6 k1 none items (onlyW l wss)) => show Calls Try.prog 11 #[.agg #[.slice A0 items.length c0, .slice A1 wss.length c1, .int .i64 r], .slice AL l.length cL] Wc fun e w3 => ∃ AI cI AW cW, e = .returned (.agg #[.slice AI items.length cI, .slice AW wss.length cW, .int .i64 r]) ∧ (w3.cell? ⟨W.heap.size, 0, none⟩ = some (.slice A0 items.length c0) ∧ w3.cell? ⟨W.heap.size, 1, none⟩ = some (.slice A1 wss.length c1) ∧ w3.cell? ⟨W.heap.size, 2, none⟩ = some (.int .i64 r)) ∧ W.heap.size < w3.heap.size ∧ Hid (St w1 w3 p5 p6 k1 (some (.slice AI items.length cI, .slice AW wss.length cW)) items (onlyW l wss)) by
    have h := hS.1
    have hbW := HD1.out.bel
    have hs1 := hbW.size
    have HDc := HD1.out.up h
    have hbc : Below W.heap.size W Wc := hbW.trans (h.mono hbW.size)
    have hfr := hS.fresh
    have hlo : ∀ b, b < W.heap.size → p5 ≠ some b ∧ p6 ≠ some b := fun b hb => hS.lo b (Nat.lt_of_lt_of_le hb hs1)
    obtain ⟨E, hE⟩ : ∃ E : Nat → Prop, E = fun b => p5 ≠ some b ∧ p6 ≠ some b := ⟨_, rfl⟩
    have hE1 : ∀ b, Wc.heap.size ≤ b → E b := fun b hb => by rw [hE]; exact hfr b hb
    have hE2 : ∀ b, b < W.heap.size → E b := fun b hb => by rw [hE]; exact hlo b hb
    refine (refOnly_E E (.slice A0 items.length c0) (.slice A1 wss.length c1) (.slice AL l.length cL) r items wss l Wc hE1 (RItems.stable _ _ _ _ _ _ HI0.out (fun b hb => hbc.block b hb) fun b hb => ⟨Nat.lt_of_lt_of_le hb hbc.size, hE2 b hb⟩) (RIntsss.stable _ _ _ _ _ _ HW0.out (fun b hb => hbc.block b hb) fun b hb => ⟨Nat.lt_of_lt_of_le hb hbc.size, hE2 b hb⟩) (RWants.stable.up HL.out hbc) (rows_of_light Hl.out).2.1 (rows_of_light Hl.out).1).mono ?_
    rintro e w3 ⟨vI, vW, rfl, hI, hW, b3⟩
    obtain ⟨AI, cI, rfl⟩ := hI.shape
    obtain ⟨AW, cW, hvW⟩ := hW.shape
    rw [onlyW_len] at hvW
    subst hvW
    subst hE
    exact ⟨AI, cI, AW, cW, rfl, (HDc.up b3).cells, Nat.lt_of_lt_of_le hWw (Nat.le_trans h.size b3.size), Lib.hid (hS.called2 b3 hI hW)⟩)
  have HS0 := Lib.hid (St.start w1 items (onlyW l wss))
  go_cut [5, 6] (fun v5 v6 wx => ∃ (P5 P6 : Nat) (vI vW vJ vX : Value), v5 = .pointer (some ⟨P5, 0, none⟩) ∧ v6 = .pointer (some ⟨P6, 0, none⟩) ∧ Hid (Two w1 wx P5 P6 vI vW vJ vX r items (onlyW l wss)))
  case first =>
    clear HL HI0 HW0 d0 d1 d2 HD
    refine wp_region_held_drew (S := (fun w3 => (w3.cell? ⟨W.heap.size, 0, none⟩ = some (.slice A0 items.length c0) ∧ w3.cell? ⟨W.heap.size, 1, none⟩ = some (.slice A1 wss.length c1) ∧ w3.cell? ⟨W.heap.size, 2, none⟩ = some (.int .i64 r)))) (by kernel_rfl) ⟨e0, e1, e2⟩ (fun hHeld => ?_)
    refine wpAnyH_take (i := 0) (v := ?_) rfl (by kernel_rfl) (by kernel_rfl) (by kernel_rfl) (fun _ _ _ h => h) (Or.inl ⟨by rfl, ?_⟩) (by assumption) ?_
    rotate_left
    · intro w1 hSw
      (try dsimp only at hSw)
      go_simp
      (try with_reducible rfl)
    (try dsimp only [Act.put, List.setIfInBounds_toArray, List.set_cons_zero, List.set_cons_succ])
    refine wpAnyH_take (i := 1) (v := ?_) rfl (by kernel_rfl) (by kernel_rfl) (by kernel_rfl) (fun _ _ _ h => h) (Or.inl ⟨by rfl, ?_⟩) (by assumption) ?_
    rotate_left
    · intro w1 hSw
      (try dsimp only at hSw)
      go_simp
      (try with_reducible rfl)
    (try dsimp only [Act.put, List.setIfInBounds_toArray, List.set_cons_zero, List.set_cons_succ])
    refine wpAnyH_take (i := 3) (v := ?_) rfl (by kernel_rfl) (by kernel_rfl) (by kernel_rfl) (fun _ _ _ h => h) (Or.inl ⟨by rfl, ?_⟩) (by assumption) ?_
    rotate_left
    · intro w1 hSw
      (try dsimp only at hSw)
      go_simp
      (try with_reducible rfl)
    (try dsimp only [Act.put, List.setIfInBounds_toArray, List.set_cons_zero, List.set_cons_succ])
    refine wpAnyH_take (i := 4) (v := ?_) rfl (by kernel_rfl) (by kernel_rfl) (by kernel_rfl) (fun _ _ _ h => h) (Or.inl ⟨by rfl, ?_⟩) (by assumption) ?_
    rotate_left
    · intro w1 hSw
      (try dsimp only at hSw)
      go_simp
      (try with_reducible rfl)
    (try dsimp only [Act.put, List.setIfInBounds_toArray, List.set_cons_zero, List.set_cons_succ])
    refine wpAnyH_ready (rs := [2, 6, 7]) (by kernel_rfl) (by simp) ?_
    refine AllReadyH.cons rfl (fun K hK => ?_) (AllReadyH.cons rfl (fun K hK => ?_) (AllReadyH.cons rfl (fun K hK => ?_) AllReadyH.nil))
    · skip
      go_simp
      refine (HOn.out _ _ _ _ (by first | with_reducible exact HS0.out | with_reducible exact HS0.out.dr)).mono ?_
      rintro e w3 ⟨AI, cI, AW, cW, rfl, hc2, hW2, HS1⟩
      refine hK.out _ _ hc2 (fun hHeld => ?_)
      clear hK K
      (try dsimp only [Act.put, List.setIfInBounds_toArray, List.set_cons_zero, List.set_cons_succ])
      refine wpAnyH_ready (rs := [5, 6, 7]) (by kernel_rfl) (by simp) ?_
      refine AllReadyH.cons rfl (fun K hK => ?_) (AllReadyH.cons rfl (fun K hK => ?_) (AllReadyH.cons rfl (fun K hK => ?_) AllReadyH.nil))
      · skip
        go_simp
        refine (HOr.out _ _ _ _ (by first | with_reducible exact HS1.out | with_reducible exact HS1.out.dr)).mono ?_
        rintro e w4 ⟨AJ, cJ, AX, cX, rfl, hc5, hW5, HS2⟩
        refine hK.out _ _ hc5 (fun hHeld => ?_)
        clear hK K
        (try dsimp only [Act.put, List.setIfInBounds_toArray, List.set_cons_zero, List.set_cons_succ])
        refine wpAnyH_ready (rs := [6, 7]) (by kernel_rfl) (by simp) ?_
        refine AllReadyH.cons rfl (fun K hK => ?_) (AllReadyH.cons rfl (fun K hK => ?_) AllReadyH.nil)
        · skip
          go_simp
          refine hK.out _ _ (dc_alloc (by assumption) (by first | assumption | (simp; omega))) (fun hHeld => ?_)
          clear hK K
          (try dsimp only [Act.put, List.setIfInBounds_toArray, List.set_cons_zero, List.set_cons_succ])
          have HS3 := Lib.hid (HS2.out.a5' (P := w4.heap.size) (by simp))
          refine wpAnyH_ready (rs := [7]) (by kernel_rfl) (by simp) ?_
          refine AllReadyH.cons rfl (fun K hK => ?_) AllReadyH.nil
          · skip
            go_simp
            refine hK.out _ _ (dc_alloc (by assumption) (by first | assumption | (simp; omega))) (fun hHeld => ?_)
            clear hK K
            (try dsimp only [Act.put, List.setIfInBounds_toArray, List.set_cons_zero, List.set_cons_succ])
            have HS4 := Lib.hid (HS3.out.a6' (P := w4.heap.size + 1) (by simp))
            obtain ⟨P6, hP6⟩ : ∃ P : Nat, P = w4.heap.size + 1 := ⟨_, rfl⟩
            rw [← hP6] at HS4 ⊢
            clear hP6
            obtain ⟨P5, hP5⟩ : ∃ P : Nat, P = w4.heap.size := ⟨_, rfl⟩
            rw [← hP5] at HS4 ⊢
            clear hP5
            obtain ⟨wz, hwz⟩ : ∃ wz : World, wz = ((w4.alloc ZD).alloc ZD) := ⟨_, rfl⟩
            rw [← hwz] at hHeld HS4 ⊢
            clear hwz
            have HT := Lib.hid (HS4.out.stores (r := r))
            have q5 := (HS4.out.2.1 _ rfl).2
            have q6 := (HS4.out.2.2.1 _ rfl).2
            have hne : P5 ≠ P6 := fun e => HS4.out.2.2.2.1 _ rfl (by rw [e])
            have hn5 : P5 ≠ W.heap.size := fun e => by have := (HS4.out.2.1 _ rfl).1; omega
            have hn6 : P6 ≠ W.heap.size := fun e => by have := (HS4.out.2.2.1 _ rfl).1; omega
            have a0 := cell_of_row _ _ 0 _ _ _ q5
            have b0 := cell_of_row _ _ 0 _ _ _ q6
            have fa0 := frozen_of_row wz P5 0 _ _ q5
            have fb0 := frozen_of_row wz P6 0 _ _ q6
            have a1 := cell_of_row _ _ 1 _ _ _ q5
            have b1 := cell_of_row _ _ 1 _ _ _ q6
            have fa1 := frozen_of_row wz P5 1 _ _ q5
            have fb1 := frozen_of_row wz P6 1 _ _ q6
            have a2 := cell_of_row _ _ 2 _ _ _ q5
            have b2 := cell_of_row _ _ 2 _ _ _ q6
            have fa2 := frozen_of_row wz P5 2 _ _ q5
            have fb2 := frozen_of_row wz P6 2 _ _ q6
            have e5 := (Array.getElem?_eq_some_iff.1 q5).1
            have e6 := (Array.getElem?_eq_some_iff.1 q6).1
            clear q5 q6
            refine wpAnyH_ready (rs := [8]) (by kernel_rfl) (by simp) ?_
            refine AllReadyH.cons rfl (fun K hK => ?_) AllReadyH.nil
            go_simp
            refine hK.out _ _ (dc_set (dc_set (dc_set hHeld hn5) hn5) hn5) (fun hHeld => ?_)
            clear hK K
            (try dsimp only [Act.put, List.setIfInBounds_toArray, List.set_cons_zero, List.set_cons_succ])
            refine wpAnyH_ready (rs := [9]) (by kernel_rfl) (by simp) ?_
            refine AllReadyH.cons rfl (fun K hK => ?_) AllReadyH.nil
            go_simp
            refine hK.out _ _ (dc_set (dc_set (dc_set (by assumption) hn6) hn6) hn6) (fun hHeld => ?_)
            clear hK K
            (try dsimp only [Act.put, List.setIfInBounds_toArray, List.set_cons_zero, List.set_cons_succ])
            refine wpAnyH_done (by kernel_rfl) ?_ _
            go_wp2
            go_meet
            exact ⟨_, _, _, _, _, _, rfl, rfl, HT⟩
        · skip
          go_simp
          refine hK.out _ _ (dc_alloc (by assumption) (by first | assumption | (simp; omega))) (fun hHeld => ?_)
          clear hK K
          (try dsimp only [Act.put, List.setIfInBounds_toArray, List.set_cons_zero, List.set_cons_succ])
          have HS3 := Lib.hid (HS2.out.a6' (P := w4.heap.size) (by simp))
          refine wpAnyH_ready (rs := [6]) (by kernel_rfl) (by simp) ?_
          refine AllReadyH.cons rfl (fun K hK => ?_) AllReadyH.nil
          · skip
            go_simp
            refine hK.out _ _ (dc_alloc (by assumption) (by first | assumption | (simp; omega))) (fun hHeld => ?_)
            clear hK K
            (try dsimp only [Act.put, List.setIfInBounds_toArray, List.set_cons_zero, List.set_cons_succ])
            have HS4 := Lib.hid (HS3.out.a5' (P := w4.heap.size + 1) (by simp))
            obtain ⟨P5, hP5⟩ : ∃ P : Nat, P = w4.heap.size + 1 := ⟨_, rfl⟩
            rw [← hP5] at HS4 ⊢
            clear hP5
            obtain ⟨P6, hP6⟩ : ∃ P : Nat, P = w4.heap.size := ⟨_, rfl⟩
            rw [← hP6] at HS4 ⊢
            clear hP6
            obtain ⟨wz, hwz⟩ : ∃ wz : World, wz = ((w4.alloc ZD).alloc ZD) := ⟨_, rfl⟩
            rw [← hwz] at hHeld HS4 ⊢
            clear hwz
            have HT := Lib.hid (HS4.out.stores (r := r))
            have q5 := (HS4.out.2.1 _ rfl).2
            have q6 := (HS4.out.2.2.1 _ rfl).2
            have hne : P5 ≠ P6 := fun e => HS4.out.2.2.2.1 _ rfl (by rw [e])
            have hn5 : P5 ≠ W.heap.size := fun e => by have := (HS4.out.2.1 _ rfl).1; omega
            have hn6 : P6 ≠ W.heap.size := fun e => by have := (HS4.out.2.2.1 _ rfl).1; omega
            have a0 := cell_of_row _ _ 0 _ _ _ q5
            have b0 := cell_of_row _ _ 0 _ _ _ q6
            have fa0 := frozen_of_row wz P5 0 _ _ q5
            have fb0 := frozen_of_row wz P6 0 _ _ q6
            have a1 := cell_of_row _ _ 1 _ _ _ q5
            have b1 := cell_of_row _ _ 1 _ _ _ q6
            have fa1 := frozen_of_row wz P5 1 _ _ q5
            have fb1 := frozen_of_row wz P6 1 _ _ q6
            have a2 := cell_of_row _ _ 2 _ _ _ q5
            have b2 := cell_of_row _ _ 2 _ _ _ q6
            have fa2 := frozen_of_row wz P5 2 _ _ q5
            have fb2 := frozen_of_row wz P6 2 _ _ q6
            have e5 := (Array.getElem?_eq_some_iff.1 q5).1
            have e6 := (Array.getElem?_eq_some_iff.1 q6).1
            clear q5 q6
            refine wpAnyH_ready (rs := [8]) (by kernel_rfl) (by simp) ?_
            refine AllReadyH.cons rfl (fun K hK => ?_) AllReadyH.nil
            go_simp
            refine hK.out _ _ (dc_set (dc_set (dc_set hHeld hn5) hn5) hn5) (fun hHeld => ?_)
            clear hK K
            (try dsimp only [Act.put, List.setIfInBounds_toArray, List.set_cons_zero, List.set_cons_succ])
            refine wpAnyH_ready (rs := [9]) (by kernel_rfl) (by simp) ?_
            refine AllReadyH.cons rfl (fun K hK => ?_) AllReadyH.nil
            go_simp
            refine hK.out _ _ (dc_set (dc_set (dc_set (by assumption) hn6) hn6) hn6) (fun hHeld => ?_)
            clear hK K
            (try dsimp only [Act.put, List.setIfInBounds_toArray, List.set_cons_zero, List.set_cons_succ])
            refine wpAnyH_done (by kernel_rfl) ?_ _
            go_wp2
            go_meet
            exact ⟨_, _, _, _, _, _, rfl, rfl, HT⟩
      · skip
        go_simp
        refine hK.out _ _ (dc_alloc (by assumption) (by first | assumption | (simp; omega))) (fun hHeld => ?_)
        clear hK K
        (try dsimp only [Act.put, List.setIfInBounds_toArray, List.set_cons_zero, List.set_cons_succ])
        have HS2 := Lib.hid (HS1.out.a5' (P := w3.heap.size) (by simp))
        refine wpAnyH_ready (rs := [5, 7]) (by kernel_rfl) (by simp) ?_
        refine AllReadyH.cons rfl (fun K hK => ?_) (AllReadyH.cons rfl (fun K hK => ?_) AllReadyH.nil)
        · skip
          go_simp
          refine (HOr.out _ _ _ _ (by first | with_reducible exact HS2.out | with_reducible exact HS2.out.dr)).mono ?_
          rintro e w4 ⟨AJ, cJ, AX, cX, rfl, hc5, hW5, HS3⟩
          refine hK.out _ _ hc5 (fun hHeld => ?_)
          clear hK K
          (try dsimp only [Act.put, List.setIfInBounds_toArray, List.set_cons_zero, List.set_cons_succ])
          refine wpAnyH_ready (rs := [7]) (by kernel_rfl) (by simp) ?_
          refine AllReadyH.cons rfl (fun K hK => ?_) AllReadyH.nil
          · skip
            go_simp
            refine hK.out _ _ (dc_alloc (by assumption) (by first | assumption | (simp; omega))) (fun hHeld => ?_)
            clear hK K
            (try dsimp only [Act.put, List.setIfInBounds_toArray, List.set_cons_zero, List.set_cons_succ])
            have HS4 := Lib.hid (HS3.out.a6' (P := w4.heap.size) (by simp))
            obtain ⟨P5, hP5⟩ : ∃ P : Nat, P = w3.heap.size := ⟨_, rfl⟩
            rw [← hP5] at HS4 ⊢
            clear hP5
            obtain ⟨P6, hP6⟩ : ∃ P : Nat, P = w4.heap.size := ⟨_, rfl⟩
            rw [← hP6] at HS4 ⊢
            clear hP6
            obtain ⟨wz, hwz⟩ : ∃ wz : World, wz = (w4.alloc ZD) := ⟨_, rfl⟩
            rw [← hwz] at hHeld HS4 ⊢
            clear hwz
            have HT := Lib.hid (HS4.out.stores (r := r))
            have q5 := (HS4.out.2.1 _ rfl).2
            have q6 := (HS4.out.2.2.1 _ rfl).2
            have hne : P5 ≠ P6 := fun e => HS4.out.2.2.2.1 _ rfl (by rw [e])
            have hn5 : P5 ≠ W.heap.size := fun e => by have := (HS4.out.2.1 _ rfl).1; omega
            have hn6 : P6 ≠ W.heap.size := fun e => by have := (HS4.out.2.2.1 _ rfl).1; omega
            have a0 := cell_of_row _ _ 0 _ _ _ q5
            have b0 := cell_of_row _ _ 0 _ _ _ q6
            have fa0 := frozen_of_row wz P5 0 _ _ q5
            have fb0 := frozen_of_row wz P6 0 _ _ q6
            have a1 := cell_of_row _ _ 1 _ _ _ q5
            have b1 := cell_of_row _ _ 1 _ _ _ q6
            have fa1 := frozen_of_row wz P5 1 _ _ q5
            have fb1 := frozen_of_row wz P6 1 _ _ q6
            have a2 := cell_of_row _ _ 2 _ _ _ q5
            have b2 := cell_of_row _ _ 2 _ _ _ q6
            have fa2 := frozen_of_row wz P5 2 _ _ q5
            have fb2 := frozen_of_row wz P6 2 _ _ q6
            have e5 := (Array.getElem?_eq_some_iff.1 q5).1
            have e6 := (Array.getElem?_eq_some_iff.1 q6).1
            clear q5 q6
            refine wpAnyH_ready (rs := [8]) (by kernel_rfl) (by simp) ?_
            refine AllReadyH.cons rfl (fun K hK => ?_) AllReadyH.nil
            go_simp
            refine hK.out _ _ (dc_set (dc_set (dc_set hHeld hn5) hn5) hn5) (fun hHeld => ?_)
            clear hK K
            (try dsimp only [Act.put, List.setIfInBounds_toArray, List.set_cons_zero, List.set_cons_succ])
            refine wpAnyH_ready (rs := [9]) (by kernel_rfl) (by simp) ?_
            refine AllReadyH.cons rfl (fun K hK => ?_) AllReadyH.nil
            go_simp
            refine hK.out _ _ (dc_set (dc_set (dc_set (by assumption) hn6) hn6) hn6) (fun hHeld => ?_)
            clear hK K
            (try dsimp only [Act.put, List.setIfInBounds_toArray, List.set_cons_zero, List.set_cons_succ])
            refine wpAnyH_done (by kernel_rfl) ?_ _
            go_wp2
            go_meet
            exact ⟨_, _, _, _, _, _, rfl, rfl, HT⟩
        · skip
          go_simp
          refine hK.out _ _ (dc_alloc (by assumption) (by first | assumption | (simp; omega))) (fun hHeld => ?_)
          clear hK K
          (try dsimp only [Act.put, List.setIfInBounds_toArray, List.set_cons_zero, List.set_cons_succ])
          have HS3 := Lib.hid (HS2.out.a6' (P := w3.heap.size + 1) (by simp))
          refine wpAnyH_ready (rs := [5]) (by kernel_rfl) (by simp) ?_
          refine AllReadyH.cons rfl (fun K hK => ?_) AllReadyH.nil
          · skip
            go_simp
            refine (HOr.out _ _ _ _ (by first | with_reducible exact HS3.out | with_reducible exact HS3.out.dr)).mono ?_
            rintro e w4 ⟨AJ, cJ, AX, cX, rfl, hc5, hW5, HS4⟩
            refine hK.out _ _ hc5 (fun hHeld => ?_)
            clear hK K
            (try dsimp only [Act.put, List.setIfInBounds_toArray, List.set_cons_zero, List.set_cons_succ])
            obtain ⟨P6, hP6⟩ : ∃ P : Nat, P = w3.heap.size + 1 := ⟨_, rfl⟩
            rw [← hP6] at HS4 ⊢
            clear hP6
            obtain ⟨P5, hP5⟩ : ∃ P : Nat, P = w3.heap.size := ⟨_, rfl⟩
            rw [← hP5] at HS4 ⊢
            clear hP5
            obtain ⟨wz, hwz⟩ : ∃ wz : World, wz = w4 := ⟨_, rfl⟩
            rw [← hwz] at hHeld HS4 ⊢
            clear hwz
            have HT := Lib.hid (HS4.out.stores (r := r))
            have q5 := (HS4.out.2.1 _ rfl).2
            have q6 := (HS4.out.2.2.1 _ rfl).2
            have hne : P5 ≠ P6 := fun e => HS4.out.2.2.2.1 _ rfl (by rw [e])
            have hn5 : P5 ≠ W.heap.size := fun e => by have := (HS4.out.2.1 _ rfl).1; omega
            have hn6 : P6 ≠ W.heap.size := fun e => by have := (HS4.out.2.2.1 _ rfl).1; omega
            have a0 := cell_of_row _ _ 0 _ _ _ q5
            have b0 := cell_of_row _ _ 0 _ _ _ q6
            have fa0 := frozen_of_row wz P5 0 _ _ q5
            have fb0 := frozen_of_row wz P6 0 _ _ q6
            have a1 := cell_of_row _ _ 1 _ _ _ q5
            have b1 := cell_of_row _ _ 1 _ _ _ q6
            have fa1 := frozen_of_row wz P5 1 _ _ q5
            have fb1 := frozen_of_row wz P6 1 _ _ q6
            have a2 := cell_of_row _ _ 2 _ _ _ q5
            have b2 := cell_of_row _ _ 2 _ _ _ q6
            have fa2 := frozen_of_row wz P5 2 _ _ q5
            have fb2 := frozen_of_row wz P6 2 _ _ q6
            have e5 := (Array.getElem?_eq_some_iff.1 q5).1
            have e6 := (Array.getElem?_eq_some_iff.1 q6).1
            clear q5 q6
            refine wpAnyH_ready (rs := [8]) (by kernel_rfl) (by simp) ?_
            refine AllReadyH.cons rfl (fun K hK => ?_) AllReadyH.nil
            go_simp
            refine hK.out _ _ (dc_set (dc_set (dc_set hHeld hn5) hn5) hn5) (fun hHeld => ?_)
            clear hK K
            (try dsimp only [Act.put, List.setIfInBounds_toArray, List.set_cons_zero, List.set_cons_succ])
            refine wpAnyH_ready (rs := [9]) (by kernel_rfl) (by simp) ?_
            refine AllReadyH.cons rfl (fun K hK => ?_) AllReadyH.nil
            go_simp
            refine hK.out _ _ (dc_set (dc_set (dc_set (by assumption) hn6) hn6) hn6) (fun hHeld => ?_)
            clear hK K
            (try dsimp only [Act.put, List.setIfInBounds_toArray, List.set_cons_zero, List.set_cons_succ])
            refine wpAnyH_done (by kernel_rfl) ?_ _
            go_wp2
            go_meet
            exact ⟨_, _, _, _, _, _, rfl, rfl, HT⟩
      · skip
        go_simp
        refine hK.out _ _ (dc_alloc (by assumption) (by first | assumption | (simp; omega))) (fun hHeld => ?_)
        clear hK K
        (try dsimp only [Act.put, List.setIfInBounds_toArray, List.set_cons_zero, List.set_cons_succ])
        have HS2 := Lib.hid (HS1.out.a6' (P := w3.heap.size) (by simp))
        refine wpAnyH_ready (rs := [5, 6]) (by kernel_rfl) (by simp) ?_
        refine AllReadyH.cons rfl (fun K hK => ?_) (AllReadyH.cons rfl (fun K hK => ?_) AllReadyH.nil)
        · skip
          go_simp
          refine (HOr.out _ _ _ _ (by first | with_reducible exact HS2.out | with_reducible exact HS2.out.dr)).mono ?_
          rintro e w4 ⟨AJ, cJ, AX, cX, rfl, hc5, hW5, HS3⟩
          refine hK.out _ _ hc5 (fun hHeld => ?_)
          clear hK K
          (try dsimp only [Act.put, List.setIfInBounds_toArray, List.set_cons_zero, List.set_cons_succ])
          refine wpAnyH_ready (rs := [6]) (by kernel_rfl) (by simp) ?_
          refine AllReadyH.cons rfl (fun K hK => ?_) AllReadyH.nil
          · skip
            go_simp
            refine hK.out _ _ (dc_alloc (by assumption) (by first | assumption | (simp; omega))) (fun hHeld => ?_)
            clear hK K
            (try dsimp only [Act.put, List.setIfInBounds_toArray, List.set_cons_zero, List.set_cons_succ])
            have HS4 := Lib.hid (HS3.out.a5' (P := w4.heap.size) (by simp))
            obtain ⟨P5, hP5⟩ : ∃ P : Nat, P = w4.heap.size := ⟨_, rfl⟩
            rw [← hP5] at HS4 ⊢
            clear hP5
            obtain ⟨P6, hP6⟩ : ∃ P : Nat, P = w3.heap.size := ⟨_, rfl⟩
            rw [← hP6] at HS4 ⊢
            clear hP6
            obtain ⟨wz, hwz⟩ : ∃ wz : World, wz = (w4.alloc ZD) := ⟨_, rfl⟩
            rw [← hwz] at hHeld HS4 ⊢
            clear hwz
            have HT := Lib.hid (HS4.out.stores (r := r))
            have q5 := (HS4.out.2.1 _ rfl).2
            have q6 := (HS4.out.2.2.1 _ rfl).2
            have hne : P5 ≠ P6 := fun e => HS4.out.2.2.2.1 _ rfl (by rw [e])
            have hn5 : P5 ≠ W.heap.size := fun e => by have := (HS4.out.2.1 _ rfl).1; omega
            have hn6 : P6 ≠ W.heap.size := fun e => by have := (HS4.out.2.2.1 _ rfl).1; omega
            have a0 := cell_of_row _ _ 0 _ _ _ q5
            have b0 := cell_of_row _ _ 0 _ _ _ q6
            have fa0 := frozen_of_row wz P5 0 _ _ q5
            have fb0 := frozen_of_row wz P6 0 _ _ q6
            have a1 := cell_of_row _ _ 1 _ _ _ q5
            have b1 := cell_of_row _ _ 1 _ _ _ q6
            have fa1 := frozen_of_row wz P5 1 _ _ q5
            have fb1 := frozen_of_row wz P6 1 _ _ q6
            have a2 := cell_of_row _ _ 2 _ _ _ q5
            have b2 := cell_of_row _ _ 2 _ _ _ q6
            have fa2 := frozen_of_row wz P5 2 _ _ q5
            have fb2 := frozen_of_row wz P6 2 _ _ q6
            have e5 := (Array.getElem?_eq_some_iff.1 q5).1
            have e6 := (Array.getElem?_eq_some_iff.1 q6).1
            clear q5 q6
            refine wpAnyH_ready (rs := [8]) (by kernel_rfl) (by simp) ?_
            refine AllReadyH.cons rfl (fun K hK => ?_) AllReadyH.nil
            go_simp
            refine hK.out _ _ (dc_set (dc_set (dc_set hHeld hn5) hn5) hn5) (fun hHeld => ?_)
            clear hK K
            (try dsimp only [Act.put, List.setIfInBounds_toArray, List.set_cons_zero, List.set_cons_succ])
            refine wpAnyH_ready (rs := [9]) (by kernel_rfl) (by simp) ?_
            refine AllReadyH.cons rfl (fun K hK => ?_) AllReadyH.nil
            go_simp
            refine hK.out _ _ (dc_set (dc_set (dc_set (by assumption) hn6) hn6) hn6) (fun hHeld => ?_)
            clear hK K
            (try dsimp only [Act.put, List.setIfInBounds_toArray, List.set_cons_zero, List.set_cons_succ])
            refine wpAnyH_done (by kernel_rfl) ?_ _
            go_wp2
            go_meet
            exact ⟨_, _, _, _, _, _, rfl, rfl, HT⟩
        · skip
          go_simp
          refine hK.out _ _ (dc_alloc (by assumption) (by first | assumption | (simp; omega))) (fun hHeld => ?_)
          clear hK K
          (try dsimp only [Act.put, List.setIfInBounds_toArray, List.set_cons_zero, List.set_cons_succ])
          have HS3 := Lib.hid (HS2.out.a5' (P := w3.heap.size + 1) (by simp))
          refine wpAnyH_ready (rs := [5]) (by kernel_rfl) (by simp) ?_
          refine AllReadyH.cons rfl (fun K hK => ?_) AllReadyH.nil
          · skip
            go_simp
            refine (HOr.out _ _ _ _ (by first | with_reducible exact HS3.out | with_reducible exact HS3.out.dr)).mono ?_
            rintro e w4 ⟨AJ, cJ, AX, cX, rfl, hc5, hW5, HS4⟩
            refine hK.out _ _ hc5 (fun hHeld => ?_)
            clear hK K
            (try dsimp only [Act.put, List.setIfInBounds_toArray, List.set_cons_zero, List.set_cons_succ])
            obtain ⟨P5, hP5⟩ : ∃ P : Nat, P = w3.heap.size + 1 := ⟨_, rfl⟩
            rw [← hP5] at HS4 ⊢
            clear hP5
            obtain ⟨P6, hP6⟩ : ∃ P : Nat, P = w3.heap.size := ⟨_, rfl⟩
            rw [← hP6] at HS4 ⊢
            clear hP6
            obtain ⟨wz, hwz⟩ : ∃ wz : World, wz = w4 := ⟨_, rfl⟩
            rw [← hwz] at hHeld HS4 ⊢
            clear hwz
            have HT := Lib.hid (HS4.out.stores (r := r))
            have q5 := (HS4.out.2.1 _ rfl).2
            have q6 := (HS4.out.2.2.1 _ rfl).2
            have hne : P5 ≠ P6 := fun e => HS4.out.2.2.2.1 _ rfl (by rw [e])
            have hn5 : P5 ≠ W.heap.size := fun e => by have := (HS4.out.2.1 _ rfl).1; omega
            have hn6 : P6 ≠ W.heap.size := fun e => by have := (HS4.out.2.2.1 _ rfl).1; omega
            have a0 := cell_of_row _ _ 0 _ _ _ q5
            have b0 := cell_of_row _ _ 0 _ _ _ q6
            have fa0 := frozen_of_row wz P5 0 _ _ q5
            have fb0 := frozen_of_row wz P6 0 _ _ q6
            have a1 := cell_of_row _ _ 1 _ _ _ q5
            have b1 := cell_of_row _ _ 1 _ _ _ q6
            have fa1 := frozen_of_row wz P5 1 _ _ q5
            have fb1 := frozen_of_row wz P6 1 _ _ q6
            have a2 := cell_of_row _ _ 2 _ _ _ q5
            have b2 := cell_of_row _ _ 2 _ _ _ q6
            have fa2 := frozen_of_row wz P5 2 _ _ q5
            have fb2 := frozen_of_row wz P6 2 _ _ q6
            have e5 := (Array.getElem?_eq_some_iff.1 q5).1
            have e6 := (Array.getElem?_eq_some_iff.1 q6).1
            clear q5 q6
            refine wpAnyH_ready (rs := [8]) (by kernel_rfl) (by simp) ?_
            refine AllReadyH.cons rfl (fun K hK => ?_) AllReadyH.nil
            go_simp
            refine hK.out _ _ (dc_set (dc_set (dc_set hHeld hn5) hn5) hn5) (fun hHeld => ?_)
            clear hK K
            (try dsimp only [Act.put, List.setIfInBounds_toArray, List.set_cons_zero, List.set_cons_succ])
            refine wpAnyH_ready (rs := [9]) (by kernel_rfl) (by simp) ?_
            refine AllReadyH.cons rfl (fun K hK => ?_) AllReadyH.nil
            go_simp
            refine hK.out _ _ (dc_set (dc_set (dc_set (by assumption) hn6) hn6) hn6) (fun hHeld => ?_)
            clear hK K
            (try dsimp only [Act.put, List.setIfInBounds_toArray, List.set_cons_zero, List.set_cons_succ])
            refine wpAnyH_done (by kernel_rfl) ?_ _
            go_wp2
            go_meet
            exact ⟨_, _, _, _, _, _, rfl, rfl, HT⟩
    · skip
      go_simp
      refine hK.out _ _ (dc_alloc (by assumption) (by first | assumption | (simp; omega))) (fun hHeld => ?_)
      clear hK K
      (try dsimp only [Act.put, List.setIfInBounds_toArray, List.set_cons_zero, List.set_cons_succ])
      have HS1 := Lib.hid (HS0.out.a5' (P := w1.heap.size) (by simp))
      refine wpAnyH_ready (rs := [2, 7]) (by kernel_rfl) (by simp) ?_
      refine AllReadyH.cons rfl (fun K hK => ?_) (AllReadyH.cons rfl (fun K hK => ?_) AllReadyH.nil)
      · skip
        go_simp
        refine (HOn.out _ _ _ _ (by first | with_reducible exact HS1.out | with_reducible exact HS1.out.dr)).mono ?_
        rintro e w3 ⟨AI, cI, AW, cW, rfl, hc2, hW2, HS2⟩
        refine hK.out _ _ hc2 (fun hHeld => ?_)
        clear hK K
        (try dsimp only [Act.put, List.setIfInBounds_toArray, List.set_cons_zero, List.set_cons_succ])
        refine wpAnyH_ready (rs := [5, 7]) (by kernel_rfl) (by simp) ?_
        refine AllReadyH.cons rfl (fun K hK => ?_) (AllReadyH.cons rfl (fun K hK => ?_) AllReadyH.nil)
        · skip
          go_simp
          refine (HOr.out _ _ _ _ (by first | with_reducible exact HS2.out | with_reducible exact HS2.out.dr)).mono ?_
          rintro e w4 ⟨AJ, cJ, AX, cX, rfl, hc5, hW5, HS3⟩
          refine hK.out _ _ hc5 (fun hHeld => ?_)
          clear hK K
          (try dsimp only [Act.put, List.setIfInBounds_toArray, List.set_cons_zero, List.set_cons_succ])
          refine wpAnyH_ready (rs := [7]) (by kernel_rfl) (by simp) ?_
          refine AllReadyH.cons rfl (fun K hK => ?_) AllReadyH.nil
          · skip
            go_simp
            refine hK.out _ _ (dc_alloc (by assumption) (by first | assumption | (simp; omega))) (fun hHeld => ?_)
            clear hK K
            (try dsimp only [Act.put, List.setIfInBounds_toArray, List.set_cons_zero, List.set_cons_succ])
            have HS4 := Lib.hid (HS3.out.a6' (P := w4.heap.size) (by simp))
            obtain ⟨P5, hP5⟩ : ∃ P : Nat, P = w1.heap.size := ⟨_, rfl⟩
            rw [← hP5] at HS4 ⊢
            clear hP5
            obtain ⟨P6, hP6⟩ : ∃ P : Nat, P = w4.heap.size := ⟨_, rfl⟩
            rw [← hP6] at HS4 ⊢
            clear hP6
            obtain ⟨wz, hwz⟩ : ∃ wz : World, wz = (w4.alloc ZD) := ⟨_, rfl⟩
            rw [← hwz] at hHeld HS4 ⊢
            clear hwz
            have HT := Lib.hid (HS4.out.stores (r := r))
            have q5 := (HS4.out.2.1 _ rfl).2
            have q6 := (HS4.out.2.2.1 _ rfl).2
            have hne : P5 ≠ P6 := fun e => HS4.out.2.2.2.1 _ rfl (by rw [e])
            have hn5 : P5 ≠ W.heap.size := fun e => by have := (HS4.out.2.1 _ rfl).1; omega
            have hn6 : P6 ≠ W.heap.size := fun e => by have := (HS4.out.2.2.1 _ rfl).1; omega
            have a0 := cell_of_row _ _ 0 _ _ _ q5
            have b0 := cell_of_row _ _ 0 _ _ _ q6
            have fa0 := frozen_of_row wz P5 0 _ _ q5
            have fb0 := frozen_of_row wz P6 0 _ _ q6
            have a1 := cell_of_row _ _ 1 _ _ _ q5
            have b1 := cell_of_row _ _ 1 _ _ _ q6
            have fa1 := frozen_of_row wz P5 1 _ _ q5
            have fb1 := frozen_of_row wz P6 1 _ _ q6
            have a2 := cell_of_row _ _ 2 _ _ _ q5
            have b2 := cell_of_row _ _ 2 _ _ _ q6
            have fa2 := frozen_of_row wz P5 2 _ _ q5
            have fb2 := frozen_of_row wz P6 2 _ _ q6
            have e5 := (Array.getElem?_eq_some_iff.1 q5).1
            have e6 := (Array.getElem?_eq_some_iff.1 q6).1
            clear q5 q6
            refine wpAnyH_ready (rs := [8]) (by kernel_rfl) (by simp) ?_
            refine AllReadyH.cons rfl (fun K hK => ?_) AllReadyH.nil
            go_simp
            refine hK.out _ _ (dc_set (dc_set (dc_set hHeld hn5) hn5) hn5) (fun hHeld => ?_)
            clear hK K
            (try dsimp only [Act.put, List.setIfInBounds_toArray, List.set_cons_zero, List.set_cons_succ])
            refine wpAnyH_ready (rs := [9]) (by kernel_rfl) (by simp) ?_
            refine AllReadyH.cons rfl (fun K hK => ?_) AllReadyH.nil
            go_simp
            refine hK.out _ _ (dc_set (dc_set (dc_set (by assumption) hn6) hn6) hn6) (fun hHeld => ?_)
            clear hK K
            (try dsimp only [Act.put, List.setIfInBounds_toArray, List.set_cons_zero, List.set_cons_succ])
            refine wpAnyH_done (by kernel_rfl) ?_ _
            go_wp2
            go_meet
            exact ⟨_, _, _, _, _, _, rfl, rfl, HT⟩
        · skip
          go_simp
          refine hK.out _ _ (dc_alloc (by assumption) (by first | assumption | (simp; omega))) (fun hHeld => ?_)
          clear hK K
          (try dsimp only [Act.put, List.setIfInBounds_toArray, List.set_cons_zero, List.set_cons_succ])
          have HS3 := Lib.hid (HS2.out.a6' (P := w3.heap.size) (by simp))
          refine wpAnyH_ready (rs := [5]) (by kernel_rfl) (by simp) ?_
          refine AllReadyH.cons rfl (fun K hK => ?_) AllReadyH.nil
          · skip
            go_simp
            refine (HOr.out _ _ _ _ (by first | with_reducible exact HS3.out | with_reducible exact HS3.out.dr)).mono ?_
            rintro e w4 ⟨AJ, cJ, AX, cX, rfl, hc5, hW5, HS4⟩
            refine hK.out _ _ hc5 (fun hHeld => ?_)
            clear hK K
            (try dsimp only [Act.put, List.setIfInBounds_toArray, List.set_cons_zero, List.set_cons_succ])
            obtain ⟨P5, hP5⟩ : ∃ P : Nat, P = w1.heap.size := ⟨_, rfl⟩
            rw [← hP5] at HS4 ⊢
            clear hP5
            obtain ⟨P6, hP6⟩ : ∃ P : Nat, P = w3.heap.size := ⟨_, rfl⟩
            rw [← hP6] at HS4 ⊢
            clear hP6
            obtain ⟨wz, hwz⟩ : ∃ wz : World, wz = w4 := ⟨_, rfl⟩
            rw [← hwz] at hHeld HS4 ⊢
            clear hwz
            have HT := Lib.hid (HS4.out.stores (r := r))
            have q5 := (HS4.out.2.1 _ rfl).2
            have q6 := (HS4.out.2.2.1 _ rfl).2
            have hne : P5 ≠ P6 := fun e => HS4.out.2.2.2.1 _ rfl (by rw [e])
            have hn5 : P5 ≠ W.heap.size := fun e => by have := (HS4.out.2.1 _ rfl).1; omega
            have hn6 : P6 ≠ W.heap.size := fun e => by have := (HS4.out.2.2.1 _ rfl).1; omega
            have a0 := cell_of_row _ _ 0 _ _ _ q5
            have b0 := cell_of_row _ _ 0 _ _ _ q6
            have fa0 := frozen_of_row wz P5 0 _ _ q5
            have fb0 := frozen_of_row wz P6 0 _ _ q6
            have a1 := cell_of_row _ _ 1 _ _ _ q5
            have b1 := cell_of_row _ _ 1 _ _ _ q6
            have fa1 := frozen_of_row wz P5 1 _ _ q5
            have fb1 := frozen_of_row wz P6 1 _ _ q6
            have a2 := cell_of_row _ _ 2 _ _ _ q5
            have b2 := cell_of_row _ _ 2 _ _ _ q6
            have fa2 := frozen_of_row wz P5 2 _ _ q5
            have fb2 := frozen_of_row wz P6 2 _ _ q6
            have e5 := (Array.getElem?_eq_some_iff.1 q5).1
            have e6 := (Array.getElem?_eq_some_iff.1 q6).1
            clear q5 q6
            refine wpAnyH_ready (rs := [8]) (by kernel_rfl) (by simp) ?_
            refine AllReadyH.cons rfl (fun K hK => ?_) AllReadyH.nil
            go_simp
            refine hK.out _ _ (dc_set (dc_set (dc_set hHeld hn5) hn5) hn5) (fun hHeld => ?_)
            clear hK K
            (try dsimp only [Act.put, List.setIfInBounds_toArray, List.set_cons_zero, List.set_cons_succ])
            refine wpAnyH_ready (rs := [9]) (by kernel_rfl) (by simp) ?_
            refine AllReadyH.cons rfl (fun K hK => ?_) AllReadyH.nil
            go_simp
            refine hK.out _ _ (dc_set (dc_set (dc_set (by assumption) hn6) hn6) hn6) (fun hHeld => ?_)
            clear hK K
            (try dsimp only [Act.put, List.setIfInBounds_toArray, List.set_cons_zero, List.set_cons_succ])
            refine wpAnyH_done (by kernel_rfl) ?_ _
            go_wp2
            go_meet
            exact ⟨_, _, _, _, _, _, rfl, rfl, HT⟩
      · skip
        go_simp
        refine hK.out _ _ (dc_alloc (by assumption) (by first | assumption | (simp; omega))) (fun hHeld => ?_)
        clear hK K
        (try dsimp only [Act.put, List.setIfInBounds_toArray, List.set_cons_zero, List.set_cons_succ])
        have HS2 := Lib.hid (HS1.out.a6' (P := w1.heap.size + 1) (by simp))
        refine wpAnyH_ready (rs := [2]) (by kernel_rfl) (by simp) ?_
        refine AllReadyH.cons rfl (fun K hK => ?_) AllReadyH.nil
        · skip
          go_simp
          refine (HOn.out _ _ _ _ (by first | with_reducible exact HS2.out | with_reducible exact HS2.out.dr)).mono ?_
          rintro e w3 ⟨AI, cI, AW, cW, rfl, hc2, hW2, HS3⟩
          refine hK.out _ _ hc2 (fun hHeld => ?_)
          clear hK K
          (try dsimp only [Act.put, List.setIfInBounds_toArray, List.set_cons_zero, List.set_cons_succ])
          refine wpAnyH_ready (rs := [5]) (by kernel_rfl) (by simp) ?_
          refine AllReadyH.cons rfl (fun K hK => ?_) AllReadyH.nil
          · skip
            go_simp
            refine (HOr.out _ _ _ _ (by first | with_reducible exact HS3.out | with_reducible exact HS3.out.dr)).mono ?_
            rintro e w4 ⟨AJ, cJ, AX, cX, rfl, hc5, hW5, HS4⟩
            refine hK.out _ _ hc5 (fun hHeld => ?_)
            clear hK K
            (try dsimp only [Act.put, List.setIfInBounds_toArray, List.set_cons_zero, List.set_cons_succ])
            obtain ⟨P6, hP6⟩ : ∃ P : Nat, P = w1.heap.size + 1 := ⟨_, rfl⟩
            rw [← hP6] at HS4 ⊢
            clear hP6
            obtain ⟨P5, hP5⟩ : ∃ P : Nat, P = w1.heap.size := ⟨_, rfl⟩
            rw [← hP5] at HS4 ⊢
            clear hP5
            obtain ⟨wz, hwz⟩ : ∃ wz : World, wz = w4 := ⟨_, rfl⟩
            rw [← hwz] at hHeld HS4 ⊢
            clear hwz
            have HT := Lib.hid (HS4.out.stores (r := r))
            have q5 := (HS4.out.2.1 _ rfl).2
            have q6 := (HS4.out.2.2.1 _ rfl).2
            have hne : P5 ≠ P6 := fun e => HS4.out.2.2.2.1 _ rfl (by rw [e])
            have hn5 : P5 ≠ W.heap.size := fun e => by have := (HS4.out.2.1 _ rfl).1; omega
            have hn6 : P6 ≠ W.heap.size := fun e => by have := (HS4.out.2.2.1 _ rfl).1; omega
            have a0 := cell_of_row _ _ 0 _ _ _ q5
            have b0 := cell_of_row _ _ 0 _ _ _ q6
            have fa0 := frozen_of_row wz P5 0 _ _ q5
            have fb0 := frozen_of_row wz P6 0 _ _ q6
            have a1 := cell_of_row _ _ 1 _ _ _ q5
            have b1 := cell_of_row _ _ 1 _ _ _ q6
            have fa1 := frozen_of_row wz P5 1 _ _ q5
            have fb1 := frozen_of_row wz P6 1 _ _ q6
            have a2 := cell_of_row _ _ 2 _ _ _ q5
            have b2 := cell_of_row _ _ 2 _ _ _ q6
            have fa2 := frozen_of_row wz P5 2 _ _ q5
            have fb2 := frozen_of_row wz P6 2 _ _ q6
            have e5 := (Array.getElem?_eq_some_iff.1 q5).1
            have e6 := (Array.getElem?_eq_some_iff.1 q6).1
            clear q5 q6
            refine wpAnyH_ready (rs := [8]) (by kernel_rfl) (by simp) ?_
            refine AllReadyH.cons rfl (fun K hK => ?_) AllReadyH.nil
            go_simp
            refine hK.out _ _ (dc_set (dc_set (dc_set hHeld hn5) hn5) hn5) (fun hHeld => ?_)
            clear hK K
            (try dsimp only [Act.put, List.setIfInBounds_toArray, List.set_cons_zero, List.set_cons_succ])
            refine wpAnyH_ready (rs := [9]) (by kernel_rfl) (by simp) ?_
            refine AllReadyH.cons rfl (fun K hK => ?_) AllReadyH.nil
            go_simp
            refine hK.out _ _ (dc_set (dc_set (dc_set (by assumption) hn6) hn6) hn6) (fun hHeld => ?_)
            clear hK K
            (try dsimp only [Act.put, List.setIfInBounds_toArray, List.set_cons_zero, List.set_cons_succ])
            refine wpAnyH_done (by kernel_rfl) ?_ _
            go_wp2
            go_meet
            exact ⟨_, _, _, _, _, _, rfl, rfl, HT⟩
    · skip
      go_simp
      refine hK.out _ _ (dc_alloc (by assumption) (by first | assumption | (simp; omega))) (fun hHeld => ?_)
      clear hK K
      (try dsimp only [Act.put, List.setIfInBounds_toArray, List.set_cons_zero, List.set_cons_succ])
      have HS1 := Lib.hid (HS0.out.a6' (P := w1.heap.size) (by simp))
      refine wpAnyH_ready (rs := [2, 6]) (by kernel_rfl) (by simp) ?_
      refine AllReadyH.cons rfl (fun K hK => ?_) (AllReadyH.cons rfl (fun K hK => ?_) AllReadyH.nil)
      · skip
        go_simp
        refine (HOn.out _ _ _ _ (by first | with_reducible exact HS1.out | with_reducible exact HS1.out.dr)).mono ?_
        rintro e w3 ⟨AI, cI, AW, cW, rfl, hc2, hW2, HS2⟩
        refine hK.out _ _ hc2 (fun hHeld => ?_)
        clear hK K
        (try dsimp only [Act.put, List.setIfInBounds_toArray, List.set_cons_zero, List.set_cons_succ])
        refine wpAnyH_ready (rs := [5, 6]) (by kernel_rfl) (by simp) ?_
        refine AllReadyH.cons rfl (fun K hK => ?_) (AllReadyH.cons rfl (fun K hK => ?_) AllReadyH.nil)
        · skip
          go_simp
          refine (HOr.out _ _ _ _ (by first | with_reducible exact HS2.out | with_reducible exact HS2.out.dr)).mono ?_
          rintro e w4 ⟨AJ, cJ, AX, cX, rfl, hc5, hW5, HS3⟩
          refine hK.out _ _ hc5 (fun hHeld => ?_)
          clear hK K
          (try dsimp only [Act.put, List.setIfInBounds_toArray, List.set_cons_zero, List.set_cons_succ])
          refine wpAnyH_ready (rs := [6]) (by kernel_rfl) (by simp) ?_
          refine AllReadyH.cons rfl (fun K hK => ?_) AllReadyH.nil
          · skip
            go_simp
            refine hK.out _ _ (dc_alloc (by assumption) (by first | assumption | (simp; omega))) (fun hHeld => ?_)
            clear hK K
            (try dsimp only [Act.put, List.setIfInBounds_toArray, List.set_cons_zero, List.set_cons_succ])
            have HS4 := Lib.hid (HS3.out.a5' (P := w4.heap.size) (by simp))
            obtain ⟨P5, hP5⟩ : ∃ P : Nat, P = w4.heap.size := ⟨_, rfl⟩
            rw [← hP5] at HS4 ⊢
            clear hP5
            obtain ⟨P6, hP6⟩ : ∃ P : Nat, P = w1.heap.size := ⟨_, rfl⟩
            rw [← hP6] at HS4 ⊢
            clear hP6
            obtain ⟨wz, hwz⟩ : ∃ wz : World, wz = (w4.alloc ZD) := ⟨_, rfl⟩
            rw [← hwz] at hHeld HS4 ⊢
            clear hwz
            have HT := Lib.hid (HS4.out.stores (r := r))
            have q5 := (HS4.out.2.1 _ rfl).2
            have q6 := (HS4.out.2.2.1 _ rfl).2
            have hne : P5 ≠ P6 := fun e => HS4.out.2.2.2.1 _ rfl (by rw [e])
            have hn5 : P5 ≠ W.heap.size := fun e => by have := (HS4.out.2.1 _ rfl).1; omega
            have hn6 : P6 ≠ W.heap.size := fun e => by have := (HS4.out.2.2.1 _ rfl).1; omega
            have a0 := cell_of_row _ _ 0 _ _ _ q5
            have b0 := cell_of_row _ _ 0 _ _ _ q6
            have fa0 := frozen_of_row wz P5 0 _ _ q5
            have fb0 := frozen_of_row wz P6 0 _ _ q6
            have a1 := cell_of_row _ _ 1 _ _ _ q5
            have b1 := cell_of_row _ _ 1 _ _ _ q6
            have fa1 := frozen_of_row wz P5 1 _ _ q5
            have fb1 := frozen_of_row wz P6 1 _ _ q6
            have a2 := cell_of_row _ _ 2 _ _ _ q5
            have b2 := cell_of_row _ _ 2 _ _ _ q6
            have fa2 := frozen_of_row wz P5 2 _ _ q5
            have fb2 := frozen_of_row wz P6 2 _ _ q6
            have e5 := (Array.getElem?_eq_some_iff.1 q5).1
            have e6 := (Array.getElem?_eq_some_iff.1 q6).1
            clear q5 q6
            refine wpAnyH_ready (rs := [8]) (by kernel_rfl) (by simp) ?_
            refine AllReadyH.cons rfl (fun K hK => ?_) AllReadyH.nil
            go_simp
            refine hK.out _ _ (dc_set (dc_set (dc_set hHeld hn5) hn5) hn5) (fun hHeld => ?_)
            clear hK K
            (try dsimp only [Act.put, List.setIfInBounds_toArray, List.set_cons_zero, List.set_cons_succ])
            refine wpAnyH_ready (rs := [9]) (by kernel_rfl) (by simp) ?_
            refine AllReadyH.cons rfl (fun K hK => ?_) AllReadyH.nil
            go_simp
            refine hK.out _ _ (dc_set (dc_set (dc_set (by assumption) hn6) hn6) hn6) (fun hHeld => ?_)
            clear hK K
            (try dsimp only [Act.put, List.setIfInBounds_toArray, List.set_cons_zero, List.set_cons_succ])
            refine wpAnyH_done (by kernel_rfl) ?_ _
            go_wp2
            go_meet
            exact ⟨_, _, _, _, _, _, rfl, rfl, HT⟩
        · skip
          go_simp
          refine hK.out _ _ (dc_alloc (by assumption) (by first | assumption | (simp; omega))) (fun hHeld => ?_)
          clear hK K
          (try dsimp only [Act.put, List.setIfInBounds_toArray, List.set_cons_zero, List.set_cons_succ])
          have HS3 := Lib.hid (HS2.out.a5' (P := w3.heap.size) (by simp))
          refine wpAnyH_ready (rs := [5]) (by kernel_rfl) (by simp) ?_
          refine AllReadyH.cons rfl (fun K hK => ?_) AllReadyH.nil
          · skip
            go_simp
            refine (HOr.out _ _ _ _ (by first | with_reducible exact HS3.out | with_reducible exact HS3.out.dr)).mono ?_
            rintro e w4 ⟨AJ, cJ, AX, cX, rfl, hc5, hW5, HS4⟩
            refine hK.out _ _ hc5 (fun hHeld => ?_)
            clear hK K
            (try dsimp only [Act.put, List.setIfInBounds_toArray, List.set_cons_zero, List.set_cons_succ])
            obtain ⟨P5, hP5⟩ : ∃ P : Nat, P = w3.heap.size := ⟨_, rfl⟩
            rw [← hP5] at HS4 ⊢
            clear hP5
            obtain ⟨P6, hP6⟩ : ∃ P : Nat, P = w1.heap.size := ⟨_, rfl⟩
            rw [← hP6] at HS4 ⊢
            clear hP6
            obtain ⟨wz, hwz⟩ : ∃ wz : World, wz = w4 := ⟨_, rfl⟩
            rw [← hwz] at hHeld HS4 ⊢
            clear hwz
            have HT := Lib.hid (HS4.out.stores (r := r))
            have q5 := (HS4.out.2.1 _ rfl).2
            have q6 := (HS4.out.2.2.1 _ rfl).2
            have hne : P5 ≠ P6 := fun e => HS4.out.2.2.2.1 _ rfl (by rw [e])
            have hn5 : P5 ≠ W.heap.size := fun e => by have := (HS4.out.2.1 _ rfl).1; omega
            have hn6 : P6 ≠ W.heap.size := fun e => by have := (HS4.out.2.2.1 _ rfl).1; omega
            have a0 := cell_of_row _ _ 0 _ _ _ q5
            have b0 := cell_of_row _ _ 0 _ _ _ q6
            have fa0 := frozen_of_row wz P5 0 _ _ q5
            have fb0 := frozen_of_row wz P6 0 _ _ q6
            have a1 := cell_of_row _ _ 1 _ _ _ q5
            have b1 := cell_of_row _ _ 1 _ _ _ q6
            have fa1 := frozen_of_row wz P5 1 _ _ q5
            have fb1 := frozen_of_row wz P6 1 _ _ q6
            have a2 := cell_of_row _ _ 2 _ _ _ q5
            have b2 := cell_of_row _ _ 2 _ _ _ q6
            have fa2 := frozen_of_row wz P5 2 _ _ q5
            have fb2 := frozen_of_row wz P6 2 _ _ q6
            have e5 := (Array.getElem?_eq_some_iff.1 q5).1
            have e6 := (Array.getElem?_eq_some_iff.1 q6).1
            clear q5 q6
            refine wpAnyH_ready (rs := [8]) (by kernel_rfl) (by simp) ?_
            refine AllReadyH.cons rfl (fun K hK => ?_) AllReadyH.nil
            go_simp
            refine hK.out _ _ (dc_set (dc_set (dc_set hHeld hn5) hn5) hn5) (fun hHeld => ?_)
            clear hK K
            (try dsimp only [Act.put, List.setIfInBounds_toArray, List.set_cons_zero, List.set_cons_succ])
            refine wpAnyH_ready (rs := [9]) (by kernel_rfl) (by simp) ?_
            refine AllReadyH.cons rfl (fun K hK => ?_) AllReadyH.nil
            go_simp
            refine hK.out _ _ (dc_set (dc_set (dc_set (by assumption) hn6) hn6) hn6) (fun hHeld => ?_)
            clear hK K
            (try dsimp only [Act.put, List.setIfInBounds_toArray, List.set_cons_zero, List.set_cons_succ])
            refine wpAnyH_done (by kernel_rfl) ?_ _
            go_wp2
            go_meet
            exact ⟨_, _, _, _, _, _, rfl, rfl, HT⟩
      · skip
        go_simp
        refine hK.out _ _ (dc_alloc (by assumption) (by first | assumption | (simp; omega))) (fun hHeld => ?_)
        clear hK K
        (try dsimp only [Act.put, List.setIfInBounds_toArray, List.set_cons_zero, List.set_cons_succ])
        have HS2 := Lib.hid (HS1.out.a5' (P := w1.heap.size + 1) (by simp))
        refine wpAnyH_ready (rs := [2]) (by kernel_rfl) (by simp) ?_
        refine AllReadyH.cons rfl (fun K hK => ?_) AllReadyH.nil
        · skip
          go_simp
          refine (HOn.out _ _ _ _ (by first | with_reducible exact HS2.out | with_reducible exact HS2.out.dr)).mono ?_
          rintro e w3 ⟨AI, cI, AW, cW, rfl, hc2, hW2, HS3⟩
          refine hK.out _ _ hc2 (fun hHeld => ?_)
          clear hK K
          (try dsimp only [Act.put, List.setIfInBounds_toArray, List.set_cons_zero, List.set_cons_succ])
          refine wpAnyH_ready (rs := [5]) (by kernel_rfl) (by simp) ?_
          refine AllReadyH.cons rfl (fun K hK => ?_) AllReadyH.nil
          · skip
            go_simp
            refine (HOr.out _ _ _ _ (by first | with_reducible exact HS3.out | with_reducible exact HS3.out.dr)).mono ?_
            rintro e w4 ⟨AJ, cJ, AX, cX, rfl, hc5, hW5, HS4⟩
            refine hK.out _ _ hc5 (fun hHeld => ?_)
            clear hK K
            (try dsimp only [Act.put, List.setIfInBounds_toArray, List.set_cons_zero, List.set_cons_succ])
            obtain ⟨P5, hP5⟩ : ∃ P : Nat, P = w1.heap.size + 1 := ⟨_, rfl⟩
            rw [← hP5] at HS4 ⊢
            clear hP5
            obtain ⟨P6, hP6⟩ : ∃ P : Nat, P = w1.heap.size := ⟨_, rfl⟩
            rw [← hP6] at HS4 ⊢
            clear hP6
            obtain ⟨wz, hwz⟩ : ∃ wz : World, wz = w4 := ⟨_, rfl⟩
            rw [← hwz] at hHeld HS4 ⊢
            clear hwz
            have HT := Lib.hid (HS4.out.stores (r := r))
            have q5 := (HS4.out.2.1 _ rfl).2
            have q6 := (HS4.out.2.2.1 _ rfl).2
            have hne : P5 ≠ P6 := fun e => HS4.out.2.2.2.1 _ rfl (by rw [e])
            have hn5 : P5 ≠ W.heap.size := fun e => by have := (HS4.out.2.1 _ rfl).1; omega
            have hn6 : P6 ≠ W.heap.size := fun e => by have := (HS4.out.2.2.1 _ rfl).1; omega
            have a0 := cell_of_row _ _ 0 _ _ _ q5
            have b0 := cell_of_row _ _ 0 _ _ _ q6
            have fa0 := frozen_of_row wz P5 0 _ _ q5
            have fb0 := frozen_of_row wz P6 0 _ _ q6
            have a1 := cell_of_row _ _ 1 _ _ _ q5
            have b1 := cell_of_row _ _ 1 _ _ _ q6
            have fa1 := frozen_of_row wz P5 1 _ _ q5
            have fb1 := frozen_of_row wz P6 1 _ _ q6
            have a2 := cell_of_row _ _ 2 _ _ _ q5
            have b2 := cell_of_row _ _ 2 _ _ _ q6
            have fa2 := frozen_of_row wz P5 2 _ _ q5
            have fb2 := frozen_of_row wz P6 2 _ _ q6
            have e5 := (Array.getElem?_eq_some_iff.1 q5).1
            have e6 := (Array.getElem?_eq_some_iff.1 q6).1
            clear q5 q6
            refine wpAnyH_ready (rs := [8]) (by kernel_rfl) (by simp) ?_
            refine AllReadyH.cons rfl (fun K hK => ?_) AllReadyH.nil
            go_simp
            refine hK.out _ _ (dc_set (dc_set (dc_set hHeld hn5) hn5) hn5) (fun hHeld => ?_)
            clear hK K
            (try dsimp only [Act.put, List.setIfInBounds_toArray, List.set_cons_zero, List.set_cons_succ])
            refine wpAnyH_ready (rs := [9]) (by kernel_rfl) (by simp) ?_
            refine AllReadyH.cons rfl (fun K hK => ?_) AllReadyH.nil
            go_simp
            refine hK.out _ _ (dc_set (dc_set (dc_set (by assumption) hn6) hn6) hn6) (fun hHeld => ?_)
            clear hK K
            (try dsimp only [Act.put, List.setIfInBounds_toArray, List.set_cons_zero, List.set_cons_succ])
            refine wpAnyH_done (by kernel_rfl) ?_ _
            go_wp2
            go_meet
            exact ⟨_, _, _, _, _, _, rfl, rfl, HT⟩
  case rest =>
    obtain ⟨P5, P6, vI, vW, vJ, vX, rfl, rfl, HT⟩ := hcut
    clear e0 e1 e2 d0 d1 d2 HOn HOr HS0 HL HI0 HW0
    have HDc := Lib.hid (HD1.out.up HT.out.1)
    obtain ⟨e0, e1, e2⟩ := HDc.out.cells
    obtain ⟨AI, cI, hvI⟩ := HT.out.2.2.2.1.1.shape
    obtain ⟨AW, cW, hvW⟩ := HT.out.2.2.2.1.2.shape
    obtain ⟨AJ, cJ, hvJ⟩ := HT.out.2.2.2.2.1.shape
    obtain ⟨AX, cX, hvX⟩ := HT.out.2.2.2.2.2.shape
    rw [onlyW_len] at hvW hvX
    subst hvI hvW hvJ hvX
    have q5 := HT.out.2.1
    have q6 := HT.out.2.2.1
    have a0 := cell_of_row _ _ 0 _ _ _ q5
    have a1 := cell_of_row _ _ 1 _ _ _ q5
    have a2 := cell_of_row _ _ 2 _ _ _ q5
    have b0 := cell_of_row _ _ 0 _ _ _ q6
    have b1 := cell_of_row _ _ 1 _ _ _ q6
    have b2 := cell_of_row _ _ 2 _ _ _ q6
    have hp5 := (Array.getElem?_eq_some_iff.1 q5).1
    have hp6 := (Array.getElem?_eq_some_iff.1 q6).1
    clear q5 q6
    have hwl : W.heap.size < wc.heap.size := World.block_lt_of_cell? wc _ e0
    have HC9 := Lib.hid (fun (w3 : World) (h : Below wc.heap.size wc w3) => show (w3.cell? ⟨W.heap.size, 0, none⟩ = some (.slice A0 items.length c0) ∧ w3.cell? ⟨W.heap.size, 1, none⟩ = some (.slice A1 wss.length c1) ∧ w3.cell? ⟨W.heap.size, 2, none⟩ = some (.int .i64 r)) ∧ (w3.cell? ⟨P5, 0, none⟩ = some (.slice AI items.length cI) ∧ w3.cell? ⟨P5, 1, none⟩ = some (.slice AW wss.length cW) ∧ w3.cell? ⟨P5, 2, none⟩ = some (.int .i64 r)) ∧ (w3.cell? ⟨P6, 0, none⟩ = some (.slice AJ items.length cJ) ∧ w3.cell? ⟨P6, 1, none⟩ = some (.slice AX wss.length cX) ∧ w3.cell? ⟨P6, 2, none⟩ = some (.int .i64 r)) from ⟨⟨(h.cell (p := ⟨_, _, _⟩) hwl).trans e0, (h.cell (p := ⟨_, _, _⟩) hwl).trans e1, (h.cell (p := ⟨_, _, _⟩) hwl).trans e2⟩, ⟨(h.cell (p := ⟨_, _, _⟩) hp5).trans a0, (h.cell (p := ⟨_, _, _⟩) hp5).trans a1, (h.cell (p := ⟨_, _, _⟩) hp5).trans a2⟩, (h.cell (p := ⟨_, _, _⟩) hp6).trans b0, (h.cell (p := ⟨_, _, _⟩) hp6).trans b1, (h.cell (p := ⟨_, _, _⟩) hp6).trans b2⟩)
    have HAl := Lib.hid (fun (Wx : World) (h : Below wc.heap.size wc Wx) => All_any A0 items.length c0 (.slice A1 wss.length c1) r wss Wx (HDc.out.up h).rW (rows_of_light Hl.out).1 (rows_of_light Hl.out).2.1)
    have HAr := Lib.hid (fun (Wx : World) (h : Below wc.heap.size wc Wx) => refAll_any A0 items.length c0 (.slice A1 wss.length c1) r wss Wx (HDc.out.up h).rW (rows_of_light Hl.out).1 (rows_of_light Hl.out).2.1)
    go_upto_region 4 with fail
    go_cut [57] (fun v57 wx => v57 = .bool false ∧ Hid (Below wc.heap.size wc wx))
    case first =>
      refine wp_region_held_drew (S := (fun w3 => (w3.cell? ⟨W.heap.size, 0, none⟩ = some (.slice A0 items.length c0) ∧ w3.cell? ⟨W.heap.size, 1, none⟩ = some (.slice A1 wss.length c1) ∧ w3.cell? ⟨W.heap.size, 2, none⟩ = some (.int .i64 r)) ∧ (w3.cell? ⟨P5, 0, none⟩ = some (.slice AI items.length cI) ∧ w3.cell? ⟨P5, 1, none⟩ = some (.slice AW wss.length cW) ∧ w3.cell? ⟨P5, 2, none⟩ = some (.int .i64 r)) ∧ (w3.cell? ⟨P6, 0, none⟩ = some (.slice AJ items.length cJ) ∧ w3.cell? ⟨P6, 1, none⟩ = some (.slice AX wss.length cX) ∧ w3.cell? ⟨P6, 2, none⟩ = some (.int .i64 r)))) (by kernel_rfl) (HC9.out _ (Below.drew (Below.refl _ _))) (fun hHeld => ?_)
      refine wpAnyH_take (i := 0) (v := ?_) rfl (by kernel_rfl) (by kernel_rfl) (by kernel_rfl) (fun _ _ _ h => h) (Or.inl ⟨by rfl, ?_⟩) (by assumption) ?_
      rotate_left
      · intro w1 hSw
        (try dsimp only at hSw)
        go_simp
        (try with_reducible rfl)
      (try dsimp only [Act.put, List.setIfInBounds_toArray, List.set_cons_zero, List.set_cons_succ])
      refine wpAnyH_take (i := 2) (v := ?_) rfl (by kernel_rfl) (by kernel_rfl) (by kernel_rfl) (fun _ _ _ h => h) (Or.inl ⟨by rfl, ?_⟩) (by assumption) ?_
      rotate_left
      · intro w1 hSw
        (try dsimp only at hSw)
        go_simp
        (try with_reducible rfl)
      (try dsimp only [Act.put, List.setIfInBounds_toArray, List.set_cons_zero, List.set_cons_succ])
      refine wpAnyH_ready (rs := [1]) (by kernel_rfl) (by simp) ?_
      refine AllReadyH.cons rfl (fun K hK => ?_) AllReadyH.nil
      go_simp
      refine (HAl.out _ (by repeat (first | exact Below.refl _ _ | refine Below.drew ?_))).mono ?_
      rintro e w5 ⟨v5, rfl, ho5, b5⟩
      have HB5 := Lib.hid (show Below wc.heap.size wc w5 from (Below.drew (Below.refl _ _)).trans b5)
      refine hK.out _ _ (HC9.out _ HB5.out) (fun hHeld => ?_)
      clear hK K
      (try dsimp only [Act.put, List.setIfInBounds_toArray, List.set_cons_zero, List.set_cons_succ])
      refine wpAnyH_ready (rs := [3]) (by kernel_rfl) (by simp) ?_
      refine AllReadyH.cons rfl (fun K hK => ?_) AllReadyH.nil
      go_simp
      refine (HAr.out _ HB5.out).mono ?_
      rintro e w6 ⟨v6, rfl, ho6, b6⟩
      have HB6 := Lib.hid (HB5.out.trans (b6.mono HB5.out.size))
      refine hK.out _ _ (HC9.out _ HB6.out) (fun hHeld => ?_)
      clear hK K
      (try dsimp only [Act.put, List.setIfInBounds_toArray, List.set_cons_zero, List.set_cons_succ])
      refine wpAnyH_ready (rs := [4]) (by kernel_rfl) (by simp) ?_
      refine AllReadyH.cons rfl (fun K hK => ?_) AllReadyH.nil
      go_simp
      refine (same_any _ _ (allW wss) (allW wss) w6 (RWants.stable.up (RWants.stable.sub ho5.reads fun b hb => hb.2) b6) (RWants.stable.sub ho6.reads fun b hb => hb.2)).mono ?_
      rintro e w7 ⟨rfl, b7⟩
      have HB7 := Lib.hid (HB6.out.trans (b7.mono HB6.out.size))
      rw [beq_self_eq_true]
      refine hK.out _ _ (HC9.out _ HB7.out) (fun hHeld => ?_)
      clear hK K
      (try dsimp only [Act.put, List.setIfInBounds_toArray, List.set_cons_zero, List.set_cons_succ])
      refine take_d (i := 5) (v := ?_) 32 rfl rfl (by kernel_rfl) (by kernel_rfl) (by kernel_rfl) (fun _ _ _ h => h) (by kernel_rfl) ?_ (by assumption) ?_
      rotate_left
      · intro w1 hSw
        (try dsimp only at hSw)
        go_simp
        (try with_reducible rfl)
      (simp only [Act.put, List.setIfInBounds_toArray, List.set_cons_zero, List.set_cons_succ])
      refine take_d (i := 6) (v := ?_) 33 rfl rfl (by kernel_rfl) (by kernel_rfl) (by kernel_rfl) (fun _ _ _ h => h) (by kernel_rfl) ?_ (by assumption) ?_
      rotate_left
      · intro w1 hSw
        (try dsimp only at hSw)
        go_simp
        (try with_reducible rfl)
      (simp only [Act.put, List.setIfInBounds_toArray, List.set_cons_zero, List.set_cons_succ])
      refine take_d (i := 7) (v := ?_) 34 rfl rfl (by kernel_rfl) (by kernel_rfl) (by kernel_rfl) (fun _ _ _ h => h) (by kernel_rfl) ?_ (by assumption) ?_
      rotate_left
      · intro w1 hSw
        (try dsimp only at hSw)
        go_simp
        (try with_reducible rfl)
      (simp only [Act.put, List.setIfInBounds_toArray, List.set_cons_zero, List.set_cons_succ])
      refine take_d (i := 8) (v := ?_) 35 rfl rfl (by kernel_rfl) (by kernel_rfl) (by kernel_rfl) (fun _ _ _ h => h) (by kernel_rfl) ?_ (by assumption) ?_
      rotate_left
      · intro w1 hSw
        (try dsimp only at hSw)
        go_simp
        (try with_reducible rfl)
      (simp only [Act.put, List.setIfInBounds_toArray, List.set_cons_zero, List.set_cons_succ])
      refine take_d (i := 9) (v := ?_) 36 rfl rfl (by kernel_rfl) (by kernel_rfl) (by kernel_rfl) (fun _ _ _ h => h) (by kernel_rfl) ?_ (by assumption) ?_
      rotate_left
      · intro w1 hSw
        (try dsimp only at hSw)
        go_simp
        (try with_reducible rfl)
      (simp only [Act.put, List.setIfInBounds_toArray, List.set_cons_zero, List.set_cons_succ])
      refine take_d (i := 10) (v := ?_) 37 rfl rfl (by kernel_rfl) (by kernel_rfl) (by kernel_rfl) (fun _ _ _ h => h) (by kernel_rfl) ?_ (by assumption) ?_
      rotate_left
      · intro w1 hSw
        (try dsimp only at hSw)
        go_simp
        (try with_reducible rfl)
      (simp only [Act.put, List.setIfInBounds_toArray, List.set_cons_zero, List.set_cons_succ])
      refine take_d (i := 11) (v := ?_) 38 rfl rfl (by kernel_rfl) (by kernel_rfl) (by kernel_rfl) (fun _ _ _ h => h) (by kernel_rfl) ?_ (by assumption) ?_
      rotate_left
      · intro w1 hSw
        (try dsimp only at hSw)
        go_simp
        (try with_reducible rfl)
      (simp only [Act.put, List.setIfInBounds_toArray, List.set_cons_zero, List.set_cons_succ])
      refine take_d (i := 12) (v := ?_) 39 rfl rfl (by kernel_rfl) (by kernel_rfl) (by kernel_rfl) (fun _ _ _ h => h) (by kernel_rfl) ?_ (by assumption) ?_
      rotate_left
      · intro w1 hSw
        (try dsimp only at hSw)
        go_simp
        (try with_reducible rfl)
      (simp only [Act.put, List.setIfInBounds_toArray, List.set_cons_zero, List.set_cons_succ])
      refine take_d (i := 13) (v := ?_) 40 rfl rfl (by kernel_rfl) (by kernel_rfl) (by kernel_rfl) (fun _ _ _ h => h) (by kernel_rfl) ?_ (by assumption) ?_
      rotate_left
      · intro w1 hSw
        (try dsimp only at hSw)
        go_simp
        (try with_reducible rfl)
      (simp only [Act.put, List.setIfInBounds_toArray, List.set_cons_zero, List.set_cons_succ])
      refine take_d (i := 14) (v := ?_) 41 rfl rfl (by kernel_rfl) (by kernel_rfl) (by kernel_rfl) (fun _ _ _ h => h) (by kernel_rfl) ?_ (by assumption) ?_
      rotate_left
      · intro w1 hSw
        (try dsimp only at hSw)
        go_simp
        (try with_reducible rfl)
      (simp only [Act.put, List.setIfInBounds_toArray, List.set_cons_zero, List.set_cons_succ])
      refine take_d (i := 15) (v := ?_) 42 rfl rfl (by kernel_rfl) (by kernel_rfl) (by kernel_rfl) (fun _ _ _ h => h) (by kernel_rfl) ?_ (by assumption) ?_
      rotate_left
      · intro w1 hSw
        (try dsimp only at hSw)
        go_simp
        (try with_reducible rfl)
      (simp only [Act.put, List.setIfInBounds_toArray, List.set_cons_zero, List.set_cons_succ])
      refine take_d (i := 16) (v := ?_) 43 rfl rfl (by kernel_rfl) (by kernel_rfl) (by kernel_rfl) (fun _ _ _ h => h) (by kernel_rfl) ?_ (by assumption) ?_
      rotate_left
      · intro w1 hSw
        (try dsimp only at hSw)
        go_simp
        (try with_reducible rfl)
      (simp only [Act.put, List.setIfInBounds_toArray, List.set_cons_zero, List.set_cons_succ])
      refine take_d (i := 17) (v := ?_) 44 rfl rfl (by kernel_rfl) (by kernel_rfl) (by kernel_rfl) (fun _ _ _ h => h) (by kernel_rfl) ?_ (by assumption) ?_
      rotate_left
      · intro w1 hSw
        (try dsimp only at hSw)
        go_simp
        (try with_reducible rfl)
      (simp only [Act.put, List.setIfInBounds_toArray, List.set_cons_zero, List.set_cons_succ])
      refine take_d (i := 18) (v := ?_) 45 rfl rfl (by kernel_rfl) (by kernel_rfl) (by kernel_rfl) (fun _ _ _ h => h) (by kernel_rfl) ?_ (by assumption) ?_
      rotate_left
      · intro w1 hSw
        (try dsimp only at hSw)
        go_simp
        (try with_reducible rfl)
      (simp only [Act.put, List.setIfInBounds_toArray, List.set_cons_zero, List.set_cons_succ])
      refine take_d (i := 19) (v := ?_) 46 rfl rfl (by kernel_rfl) (by kernel_rfl) (by kernel_rfl) (fun _ _ _ h => h) (by kernel_rfl) ?_ (by assumption) ?_
      rotate_left
      · intro w1 hSw
        (try dsimp only at hSw)
        go_simp
        (try with_reducible rfl)
      (simp only [Act.put, List.setIfInBounds_toArray, List.set_cons_zero, List.set_cons_succ])
      refine take_d (i := 20) (v := ?_) 47 rfl rfl (by kernel_rfl) (by kernel_rfl) (by kernel_rfl) (fun _ _ _ h => h) (by kernel_rfl) ?_ (by assumption) ?_
      rotate_left
      · intro w1 hSw
        (try dsimp only at hSw)
        go_simp
        (try with_reducible rfl)
      (simp only [Act.put, List.setIfInBounds_toArray, List.set_cons_zero, List.set_cons_succ])
      refine take_d (i := 21) (v := ?_) 48 rfl rfl (by kernel_rfl) (by kernel_rfl) (by kernel_rfl) (fun _ _ _ h => h) (by kernel_rfl) ?_ (by assumption) ?_
      rotate_left
      · intro w1 hSw
        (try dsimp only at hSw)
        go_simp
        (try with_reducible rfl)
      (simp only [Act.put, List.setIfInBounds_toArray, List.set_cons_zero, List.set_cons_succ])
      refine take_d (i := 22) (v := ?_) 49 rfl rfl (by kernel_rfl) (by kernel_rfl) (by kernel_rfl) (fun _ _ _ h => h) (by kernel_rfl) ?_ (by assumption) ?_
      rotate_left
      · intro w1 hSw
        (try dsimp only at hSw)
        go_simp
        (try with_reducible rfl)
      (simp only [Act.put, List.setIfInBounds_toArray, List.set_cons_zero, List.set_cons_succ])
      refine take_d (i := 23) (v := ?_) 50 rfl rfl (by kernel_rfl) (by kernel_rfl) (by kernel_rfl) (fun _ _ _ h => h) (by kernel_rfl) ?_ (by assumption) ?_
      rotate_left
      · intro w1 hSw
        (try dsimp only at hSw)
        go_simp
        (try with_reducible rfl)
      (simp only [Act.put, List.setIfInBounds_toArray, List.set_cons_zero, List.set_cons_succ])
      refine take_d (i := 24) (v := ?_) 51 rfl rfl (by kernel_rfl) (by kernel_rfl) (by kernel_rfl) (fun _ _ _ h => h) (by kernel_rfl) ?_ (by assumption) ?_
      rotate_left
      · intro w1 hSw
        (try dsimp only at hSw)
        go_simp
        (try with_reducible rfl)
      (simp only [Act.put, List.setIfInBounds_toArray, List.set_cons_zero, List.set_cons_succ])
      refine take_d (i := 25) (v := ?_) 52 rfl rfl (by kernel_rfl) (by kernel_rfl) (by kernel_rfl) (fun _ _ _ h => h) (by kernel_rfl) ?_ (by assumption) ?_
      rotate_left
      · intro w1 hSw
        (try dsimp only at hSw)
        go_simp
        (try with_reducible rfl)
      (simp only [Act.put, List.setIfInBounds_toArray, List.set_cons_zero, List.set_cons_succ])
      refine take_d (i := 26) (v := ?_) 53 rfl rfl (by kernel_rfl) (by kernel_rfl) (by kernel_rfl) (fun _ _ _ h => h) (by kernel_rfl) ?_ (by assumption) ?_
      rotate_left
      · intro w1 hSw
        (try dsimp only at hSw)
        go_simp
        (try with_reducible rfl)
      (simp only [Act.put, List.setIfInBounds_toArray, List.set_cons_zero, List.set_cons_succ])
      refine take_d (i := 27) (v := ?_) 54 rfl rfl (by kernel_rfl) (by kernel_rfl) (by kernel_rfl) (fun _ _ _ h => h) (by kernel_rfl) ?_ (by assumption) ?_
      rotate_left
      · intro w1 hSw
        (try dsimp only at hSw)
        go_simp
        (try with_reducible rfl)
      (simp only [Act.put, List.setIfInBounds_toArray, List.set_cons_zero, List.set_cons_succ])
      refine take_d (i := 28) (v := ?_) 55 rfl rfl (by kernel_rfl) (by kernel_rfl) (by kernel_rfl) (fun _ _ _ h => h) (by kernel_rfl) ?_ (by assumption) ?_
      rotate_left
      · intro w1 hSw
        (try dsimp only at hSw)
        go_simp
        (try with_reducible rfl)
      (simp only [Act.put, List.setIfInBounds_toArray, List.set_cons_zero, List.set_cons_succ])
      refine take_d (i := 29) (v := ?_) 56 rfl rfl (by kernel_rfl) (by kernel_rfl) (by kernel_rfl) (fun _ _ _ h => h) (by kernel_rfl) ?_ (by assumption) ?_
      rotate_left
      · intro w1 hSw
        (try dsimp only at hSw)
        go_simp
        (try with_reducible rfl)
      (simp only [Act.put, List.setIfInBounds_toArray, List.set_cons_zero, List.set_cons_succ])
      refine take_d (i := 30) (v := ?_) 57 rfl rfl (by kernel_rfl) (by kernel_rfl) (by kernel_rfl) (fun _ _ _ h => h) (by kernel_rfl) ?_ (by assumption) ?_
      rotate_left
      · intro w1 hSw
        (try dsimp only at hSw)
        go_simp
        (try with_reducible rfl)
      (simp only [Act.put, List.setIfInBounds_toArray, List.set_cons_zero, List.set_cons_succ])
      refine wpAnyH_done (by kernel_rfl) ?_ _
      go_wp2
      go_meet
      exact ⟨rfl, HB7⟩
    case rest =>
      obtain ⟨rfl, HBw⟩ := hcut
      obtain ⟨⟨e0, e1, e2⟩, ⟨a0, a1, a2⟩, b0, b1, b2⟩ := HC9.out _ HBw.out
      have hI1 := RItems.stable.up HT.out.2.2.2.1.1 HBw.out
      have hW1 := RIntsss.stable.up HT.out.2.2.2.1.2 HBw.out
      have hI2 := RItems.stable.up HT.out.2.2.2.2.1 HBw.out
      have hW2 := RIntsss.stable.up HT.out.2.2.2.2.2 HBw.out
      have HBW := Lib.hid (HDc.out.bel.trans (HBw.out.mono HDc.out.bel.size))
      have hszW : ∀ n, W.heap.size ≤ (wc.drewN n).heap.size := fun n => HBW.out.size
      obtain ⟨X, hX⟩ : ∃ X, onlyW l wss = X := ⟨_, rfl⟩
      have HX := Lib.hid (show X.length = wss.length by rw [← hX, onlyW_len])
      rw [hX] at hW1 hW2
      obtain ⟨A', c', e', hmI, hatI⟩ := hI1.open_
      simp only [Value.slice.injEq, true_and] at e'
      obtain ⟨rfl, rfl⟩ := e'
      obtain ⟨A', c', e', hmJ, hatJ⟩ := hI2.open_
      simp only [Value.slice.injEq, true_and] at e'
      obtain ⟨rfl, rfl⟩ := e'
      obtain ⟨A', c', e', hmW, hatW⟩ := hW1.open_
      simp only [Value.slice.injEq] at e'
      obtain ⟨rfl, -, rfl⟩ := e'
      obtain ⟨A', c', e', hmX, hatX⟩ := hW2.open_
      simp only [Value.slice.injEq] at e'
      obtain ⟨rfl, -, rfl⟩ := e'
      have HaI := Lib.hid hatI
      have HaJ := Lib.hid hatJ
      have HaW := Lib.hid hatW
      have HaX := Lib.hid hatX
      clear hatI hatJ hatW hatX hI1 hI2 hW1 hW2 hX HT HDc HC9 HAl HAr HBw e0 e1 e2 a2 b2 hp5 hp6 hwl
      go_upto_region 6 with fail
      go_wp2
      go_loopw [61] (fun sv wr => ∃ k : Nat, k ≤ items.length ∧ sv = .int .i64 k ∧ ∃ n, wr = wc.drewN n) (fun sv _ => items.length - (intOf sv).toNat)
      case atStart => exact ⟨0, Nat.zero_le _, rfl, 0, rfl⟩
      case round =>
        obtain ⟨k, hkle, rfl, n, rfl⟩ := hrel
        by_cases hklt : k < items.length
        · obtain ⟨g1, o1, rfl, hg1, i0, i1, i2, i3, i4⟩ := item_cells HaI.out hklt
          obtain ⟨g2, o2, rfl, hg2, j0, j1, j2, j3, j4⟩ := item_cells HaJ.out hklt
          have hne := neItem items[k]
          go_wp2
          go_quiet (fail)
          go_wp2
          go_roundw
          case rel => exact ⟨k + 1, by omega, by go_num, _, rfl⟩
          case measure => simp [intOf]; omega
        · obtain rfl : k = items.length := by omega
          clear hklt hkle HaI HaJ
          go_wp2
          go_loopw [79] (fun sv wr => ∃ j : Nat, j ≤ wss.length ∧ sv = .int .i64 j ∧ ∃ n, wr = wc.drewN n) (fun sv _ => wss.length - (intOf sv).toNat)
          case atStart => exact ⟨0, Nat.zero_le _, rfl, _, rfl⟩
          case round =>
            obtain ⟨j, hjle, rfl, n2, rfl⟩ := hrel
            by_cases hjlt : j < wss.length
            · have hjX : j < X.length := by have := HX.out; omega
              obtain ⟨g1, o1, u1, rfl, hg1, hc1, hu1⟩ := HaW.out.lt_ hjX
              obtain ⟨g2, o2, u2, rfl, hg2, hc2, hu2⟩ := HaX.out.lt_ hjX
              obtain ⟨A3, c3, rfl, hm3, hat3⟩ := hu1.open_
              obtain ⟨A4, c4, rfl, hm4, hat4⟩ := hu2.open_
              have Hat3 := Lib.hid hat3
              have Hat4 := Lib.hid hat4
              clear hat3 hat4 hu1 hu2
              go_wp2
              go_quiet (fail)
              go_wp2
              go_loopw [101] (fun sv wr => ∃ q : Nat, q ≤ X[j].length ∧ sv = .int .i64 q ∧ ∃ n, wr = wc.drewN n) (fun sv _ => X[j].length - (intOf sv).toNat)
              case atStart => exact ⟨0, Nat.zero_le _, rfl, _, rfl⟩
              case round =>
                obtain ⟨q, hqle, rfl, n3, rfl⟩ := hrel
                by_cases hqlt : q < X[j].length
                · obtain ⟨g3, o3, u3, rfl, hg3, hc3, hu3⟩ := Hat3.out.lt_ hqlt
                  obtain ⟨g4, o4, u4, rfl, hg4, hc4, hu4⟩ := Hat4.out.lt_ hqlt
                  obtain ⟨A5, c5, rfl, hm5, hat5⟩ := hu3.open_
                  obtain ⟨A6, c6, rfl, hm6, hat6⟩ := hu4.open_
                  have Hat5 := Lib.hid hat5
                  have Hat6 := Lib.hid hat6
                  clear hat5 hat6 hu3 hu4
                  go_wp2
                  go_loopw [120] (fun sv wr => ∃ z : Nat, z ≤ X[j][q].length ∧ sv = .int .i64 z ∧ ∃ n, wr = wc.drewN n) (fun sv _ => X[j][q].length - (intOf sv).toNat)
                  case atStart => exact ⟨0, Nat.zero_le _, rfl, _, rfl⟩
                  case round =>
                    obtain ⟨z, hzle, rfl, n4, rfl⟩ := hrel
                    by_cases hzlt : z < X[j][q].length
                    · obtain ⟨g5, o5, u5, rfl, hg5, hc5, hu5⟩ := Hat5.out.lt_ hzlt
                      obtain ⟨g6, o6, u6, rfl, hg6, hc6, hu6⟩ := Hat6.out.lt_ hzlt
                      obtain rfl := hu5
                      obtain rfl := hu6
                      go_wp2
                      go_quiet (fail)
                      go_wp2
                      go_roundw
                      case rel => exact ⟨z + 1, by omega, by go_num, _, rfl⟩
                      case measure => simp [intOf]; omega
                    · obtain rfl : z = X[j][q].length := by omega
                      clear hzlt hzle
                      go_wp2
                      go_roundw
                      case rel => exact ⟨q + 1, by omega, by go_num, _, rfl⟩
                      case measure => simp [intOf]; omega
                · obtain rfl : q = X[j].length := by omega
                  clear hqlt hqle
                  go_wp2
                  go_roundw
                  case rel => exact ⟨j + 1, by omega, by go_num, _, rfl⟩
                  case measure => simp [intOf]; omega
            · obtain rfl : j = wss.length := by omega
              clear hjlt hjle
              go_wp2_with (go_at_call 9; with_reducible refine (lives_any _).mono ?_; rintro e w9 ⟨rfl, hb⟩; have HB9 := Lib.hid ((below_drewN HBW.out _).trans (hb.mono (hszW _))); clear hb)
              go_ret
              exact ⟨rfl, HB9.out⟩
end Go.Proofs.Ytcebafeaikipmaa
