/- The law CoreLeast, walked. -/
import Derived.Deep.RegionHeld
import Derived.Test.YtcebafeaikipmaaQCoreK2
namespace Go.Proofs.Ytcebafeaikipmaa
open Go.RowKit

theorem leastL_le {B : List WantD → Bool} : ∀ (xs l : List WantD), (leastL B xs l).length ≤ l.length
  | [], l => Nat.le_refl _
  | x :: xs, l => by
    rw [leastL]
    refine Nat.le_trans (leastL_le xs _) ?_
    split
    · exact List.length_filter_le _ _
    · exact Nat.le_refl _
set_option maxRecDepth 100000 in
set_option maxHeartbeats 8000000 in
theorem walk_CoreLeast (W : World) (v0 : Value) (a0 : Arg Try.prog W 25 v0) : Calls Try.prog 5 #[v0] W fun e W' => e = .returned (.bool true) ∧ Below W.heap.size W W' := by
  obtain ⟨s0, s1, r, items, wss, rfl, h0, h1, hr1, hr2⟩ := arg_deal a0
  obtain ⟨A0, c0, rfl, hm0, -⟩ := h0.open_
  obtain ⟨A1, c1, rfl, hm1, -⟩ := h1.open_
  have HD := Lib.hid (DB.start (r := r) h0 h1)
  obtain ⟨d0, d1, d2⟩ := HD.out.cells
  clear h0 h1 a0
  by_cases hl : lightC items.length wss = true
  case neg =>
    have Hl := Lib.hid (show lightC items.length wss = false by simpa using hl)
    clear hl
    go_enter Try.func5, Try.ntmps5
    go_wp2_with (first
      | (go_at_call 8; with_reducible refine (light27_any _ _ _ _ _ wss _ HD.out.rW).mono ?_; rintro e w1 ⟨rfl, hb⟩; rw [Hl.out]; have HD1 := Lib.hid (HD.out.up hb); obtain ⟨e0, e1, e2⟩ := HD1.out.cells; clear hb)
      | (go_at_call 9; with_reducible refine (lives_any _).mono ?_; rintro e w2 ⟨rfl, hb⟩; have HB2 := Lib.hid (HD1.out.up hb).bel; clear hb))
    go_ret
    exact ⟨rfl, HB2.out⟩
  have Hl := Lib.hid hl
  have hll := all_le hl
  clear hl
  by_cases h10 : 10 < (allW wss).length
  · go_enter Try.func5, Try.ntmps5
    go_wp2_with (first
      | (go_at_call 8; with_reducible refine (light27_any _ _ _ _ _ wss _ HD.out.rW).mono ?_; rintro e w1 ⟨rfl, hb⟩; rw [Hl.out]; have HD1 := Lib.hid (HD.out.up hb); obtain ⟨e0, e1, e2⟩ := HD1.out.cells; clear hb)
      | (go_at_call 14; with_reducible refine (refAll_any' _ _ _ _ _ wss _ HD1.out.rW Hl.out).mono ?_; rintro e w2 ⟨A2, c2, rfl, ho, hb⟩; have HD2 := Lib.hid (HD1.out.up hb); obtain ⟨f0, f1, f2⟩ := HD2.out.cells; clear hb ho)
      | (go_at_call 9; with_reducible refine (lives_any _).mono ?_; rintro e w3 ⟨rfl, hb⟩; have HB3 := Lib.hid (HD2.out.up hb).bel; clear hb))
    go_ret
    exact ⟨rfl, HB3.out⟩
  by_cases hm : mayN items.length r wss = 0
  case neg =>
    have Hm := Lib.hid hm
    have hmk : ((mayN items.length r wss : Nat) : Int) = 1 := by rw [light_may27 Hl.out hm]; rfl
    clear hm
    go_enter Try.func5, Try.ntmps5
    go_wp2_with (first
      | (go_at_call 8; with_reducible refine (light27_any _ _ _ _ _ wss _ HD.out.rW).mono ?_; rintro e w1 ⟨rfl, hb⟩; rw [Hl.out]; have HD1 := Lib.hid (HD.out.up hb); obtain ⟨e0, e1, e2⟩ := HD1.out.cells; clear hb)
      | (go_at_call 14; with_reducible refine (refAll_any' _ _ _ _ _ wss _ HD1.out.rW Hl.out).mono ?_; rintro e w2 ⟨A2, c2, rfl, ho, hb⟩; have HD2 := Lib.hid (HD1.out.up hb); obtain ⟨f0, f1, f2⟩ := HD2.out.cells; clear hb ho)
      | (go_at_call 16; with_reducible refine (refMay_any _ _ _ _ _ wss _ HD2.out.rW).mono ?_; rintro e w3 ⟨rfl, hb⟩; rw [hmk]; have HD3 := Lib.hid (HD2.out.up hb); obtain ⟨g0, g1, g2⟩ := HD3.out.cells; clear hb)
      | (go_at_call 9; with_reducible refine (lives_any _).mono ?_; rintro e w4 ⟨rfl, hb⟩; have HB4 := Lib.hid (HD3.out.up hb).bel; clear hb))
    go_ret
    exact ⟨rfl, HB4.out⟩
  have Hm := Lib.hid hm
  have Hm0 := Lib.hid (show ((mayN items.length r wss : Nat) : Int) = 0 by rw [hm]; rfl)
  clear hm
  cases hbl : blamedB items wss r with
  | false =>
    have Hbl := Lib.hid hbl
    clear hbl
    go_enter Try.func5, Try.ntmps5
    go_wp2_with (first
      | (go_at_call 8; with_reducible refine (light27_any _ _ _ _ _ wss _ HD.out.rW).mono ?_; rintro e w1 ⟨rfl, hb⟩; rw [Hl.out]; have HD1 := Lib.hid (HD.out.up hb); obtain ⟨e0, e1, e2⟩ := HD1.out.cells; clear hb)
      | (go_at_call 14; with_reducible refine (refAll_any' _ _ _ _ _ wss _ HD1.out.rW Hl.out).mono ?_; rintro e w2 ⟨A2, c2, rfl, ho, hb⟩; have HD2 := Lib.hid (HD1.out.up hb); obtain ⟨f0, f1, f2⟩ := HD2.out.cells; clear hb ho)
      | (go_at_call 16; with_reducible refine (refMay_any _ _ _ _ _ wss _ HD2.out.rW).mono ?_; rintro e w3 ⟨rfl, hb⟩; rw [Hm0.out]; have HD3 := Lib.hid (HD2.out.up hb); obtain ⟨g0, g1, g2⟩ := HD3.out.cells; clear hb)
      | (go_at_call 15; with_reducible refine (of_many Hl.out Hm.out (by omega) (by omega) _ _ _ HD3.out.rI HD3.out.rW).mono ?_; rintro e w4 ⟨hq, hb⟩; go_loud (rw [Hbl.out] at hq; rcases hq with ⟨-, A3, c3, rfl⟩ | ⟨hq, -⟩; rotate_left; cases hq; have HD4 := Lib.hid (HD3.out.up hb); obtain ⟨k0, k1, k2⟩ := HD4.out.cells; clear hb))
      | (go_at_call 17; with_reducible refine (blamed_any _ _ r items wss _ HD4.out.rI HD4.out.rW (by have := (rows_of_light Hl.out).2.2.1; omega)).mono ?_; rintro e w5 ⟨rfl, hb⟩; rw [Hbl.out]; have HD5 := Lib.hid (HD4.out.up hb); clear hb)
      | (go_at_call 9; with_reducible refine (lives_any _).mono ?_; rintro e w6 ⟨rfl, hb⟩; have HB6 := Lib.hid (HD5.out.up hb).bel; clear hb))
    go_ret
    exact ⟨rfl, HB6.out⟩
  | true =>
    have Hbl := Lib.hid hbl
    obtain ⟨B, hB⟩ : ∃ B : List WantD → Bool, B = fun m => blamedB items (onlyW m wss) r := ⟨_, rfl⟩
    obtain ⟨l, hlq⟩ : ∃ l, l = leastL B (allW wss) (allW wss) := ⟨_, rfl⟩
    have HBe := Lib.hid (fun m => (show B m = blamedB items (onlyW m wss) r by rw [hB]))
    have hB1 : B l = true := by rw [hlq]; exact leastL_blamed _ _ (by rw [hB]; show blamedB items (onlyW (allW wss) wss) r = true; rw [onlyW_all]; exact hbl)
    have HB1 := Lib.hid hB1
    have HB2 := Lib.hid (show ∀ x ∈ l, B (withoutW l x) = false from fun x hx => by
      rw [hlq] at hx ⊢
      exact leastL_min (fun a b hab ha => by rw [hB] at ha ⊢; exact blamed_mono Hm.out hab ha) _ _ x (leastL_sub _ _ x hx) hx)
    have Hlq := Lib.hid (show leastL (fun m => blamedB items (onlyW m wss) r) (allW wss) (allW wss) = l by rw [hlq, hB])
    have hll2 : l.length ≤ 7000 := by rw [hlq]; exact Nat.le_trans (leastL_le _ _) hll
    clear hbl hB hlq hB1
    go_enter Try.func5, Try.ntmps5
    go_wp2_with (first
      | (go_at_call 8; with_reducible refine (light27_any _ _ _ _ _ wss _ HD.out.rW).mono ?_; rintro e w1 ⟨rfl, hb⟩; rw [Hl.out]; have HD1 := Lib.hid (HD.out.up hb); obtain ⟨e0, e1, e2⟩ := HD1.out.cells; clear hb)
      | (go_at_call 14; with_reducible refine (refAll_any' _ _ _ _ _ wss _ HD1.out.rW Hl.out).mono ?_; rintro e w2 ⟨A2, c2, rfl, ho, hb⟩; have HD2 := Lib.hid (HD1.out.up hb); obtain ⟨f0, f1, f2⟩ := HD2.out.cells; clear hb ho)
      | (go_at_call 16; with_reducible refine (refMay_any _ _ _ _ _ wss _ HD2.out.rW).mono ?_; rintro e w3 ⟨rfl, hb⟩; rw [Hm0.out]; have HD3 := Lib.hid (HD2.out.up hb); obtain ⟨g0, g1, g2⟩ := HD3.out.cells; clear hb)
      | (go_at_call 15; with_reducible refine (of_many Hl.out Hm.out (by omega) (by omega) _ _ _ HD3.out.rI HD3.out.rW).mono ?_; rintro e w4 ⟨hq, hb⟩; go_loud (rw [Hbl.out, Hlq.out] at hq; rcases hq with ⟨hq, -⟩ | ⟨-, A3, n3, c3, hn3, rfl, hr3⟩; cases hq; subst hn3; have HR4 := Lib.hid hr3; have HD4 := Lib.hid (HD3.out.up hb); obtain ⟨k0, k1, k2⟩ := HD4.out.cells; clear hb hr3))
      | (go_at_call 11; with_reducible refine (refOnly_any _ _ _ r items wss l _ HD4.out.rI HD4.out.rW HR4.out (rows_of_light Hl.out).2.1 (rows_of_light Hl.out).1).mono ?_; intro e w5 hq; go_loud (unfold OnlyPost at hq; obtain ⟨vI, vW, rfl, hI5, hW5, b5⟩ := hq; have HI5 := Lib.hid hI5; have HW5 := Lib.hid hW5; have HD5 := Lib.hid (HD4.out.up b5); have HR5 := Lib.hid (RWants.stable.up HR4.out b5); clear hI5 hW5 b5))
      | (go_at_call 17; with_reducible refine (blamed_any _ _ r items (onlyW l wss) _ HI5.out HW5.out (by have := (rows_of_light Hl.out).2.2.1; omega)).mono ?_; rintro e w6 ⟨rfl, hb⟩; go_loud (rw [← HBe.out, HB1.out]; have HD6 := Lib.hid (HD5.out.up hb); have HR6 := Lib.hid (RWants.stable.up HR5.out hb); clear hb)))
    clear d0 d1 d2 e0 e1 e2 f0 f1 f2 g0 g1 g2 k0 k1 k2 HD HD1 HD2 HD3 HD4 HD5 HR4 HR5 HI5 HW5
    go_loopw [54] (fun sv wr => ∃ k : Nat, k ≤ l.length ∧ sv = .int .i64 k ∧ Hid (Below w6.heap.size w6 wr)) (fun sv _ => l.length - (intOf sv).toNat)
    case atStart => exact ⟨0, Nat.zero_le _, rfl, Lib.hid (Below.refl _ _)⟩
    case round =>
      obtain ⟨wk, hwk⟩ : ∃ w0 : World, w0 = wr := ⟨_, rfl⟩
      rw [← hwk] at hrel ⊢
      clear hwk
      obtain ⟨k, hk, rfl, HBk⟩ := hrel
      have HDk := Lib.hid (HD6.out.up HBk.out)
      have HRk := Lib.hid (RWants.stable.up HR6.out HBk.out)
      rcases Nat.lt_or_ge k l.length with hlt | hge
      · obtain ⟨A', c', e', hm', hat⟩ := HRk.out.open_
        simp only [Value.slice.injEq] at e'
        obtain ⟨rfl, -, rfl⟩ := e'
        obtain ⟨b, off, rfl, hbk, hc1, hc2⟩ := RWants.at2 hat (Below.refl _ _) hlt
        have Hno := Lib.hid (HB2.out _ (List.getElem_mem hlt))
        obtain ⟨x, hx⟩ : ∃ x, x = l[k] := ⟨_, rfl⟩
        rw [← hx] at hc1 hc2 Hno
        obtain ⟨x1, x2⟩ := x
        clear hx hat hm'
        go_upto_region 13 with fail
        obtain ⟨X, hX⟩ : ∃ X, X = wk.heap.size := ⟨_, rfl⟩
        obtain ⟨wa, hwa⟩ : ∃ wa, wa = wk.alloc (.cells #[.int .i64 x1, .int .i64 x2] 44) := ⟨_, rfl⟩
        have Hba := Lib.hid (show Below wk.heap.size wk wa by rw [hwa]; exact below_alloc _ _)
        have hra : wa.heap[X]? = some (.cells #[.int .i64 x1, .int .i64 x2] 44 (0, 0)) := by rw [hwa, hX]; exact heap_alloc_new _ _
        rw [← hwa, ← hX]
        clear hwa hX hc1 hc2
        have Hra := Lib.hid hra
        have HDa := Lib.hid (HDk.out.up Hba.out)
        have HRa := Lib.hid (RWants.stable.up HRk.out Hba.out)
        have Hcells := Lib.hid (fun (V : World) (h : Below wa.heap.size wa V) => show (V.cell? ⟨W.heap.size, 0, none⟩ = some (.slice A0 items.length c0) ∧ V.cell? ⟨W.heap.size, 1, none⟩ = some (.slice A1 wss.length c1) ∧ V.cell? ⟨W.heap.size, 2, none⟩ = some (.int .i64 r)) ∧ V.cell? ⟨X, 0, none⟩ = some (.int .i64 x1) ∧ V.cell? ⟨X, 1, none⟩ = some (.int .i64 x2) by
          have h2 := (h.block _ (Array.getElem?_eq_some_iff.1 Hra.out).1).trans Hra.out
          exact ⟨(HDa.out.up h).cells, cell_of_row _ _ _ _ _ (0, 0) h2, cell_of_row _ _ _ _ _ (0, 0) h2⟩)
        obtain ⟨⟨g0, g1, g2⟩, g3, g4⟩ := Hcells.out wa (Below.refl _ _)
        clear hra
        refine wp_region_held_drew (S := (fun w' => (w'.cell? ⟨W.heap.size, 0, none⟩ = some (.slice A0 items.length c0) ∧ w'.cell? ⟨W.heap.size, 1, none⟩ = some (.slice A1 wss.length c1) ∧ w'.cell? ⟨W.heap.size, 2, none⟩ = some (.int .i64 r)) ∧ w'.cell? ⟨X, 0, none⟩ = some (.int .i64 x1) ∧ w'.cell? ⟨X, 1, none⟩ = some (.int .i64 x2))) (by kernel_rfl) ⟨⟨g0, g1, g2⟩, g3, g4⟩ (fun hHeld => ?_)
        refine wpAnyH_take (i := 0) (v := ?_) rfl (by kernel_rfl) (by kernel_rfl) (by kernel_rfl) (fun _ _ _ h => h) (Or.inl ⟨by rfl, ?_⟩) (by assumption) ?_
        rotate_left
        · intro w1 hSw
          (try dsimp only at hSw)
          go_simp
          (try with_reducible rfl)
        (try dsimp only [Act.put, List.setIfInBounds_toArray, List.set_cons_zero, List.set_cons_succ])
        refine wpAnyH_take (i := 1) (v := ?_) rfl (by kernel_rfl) (by kernel_rfl) (by kernel_rfl) (fun _ _ _ h => h) (Or.inl ⟨by rfl, ?_⟩) (by assumption) ?_
        rotate_left
        · intro w1 hSw
          (try dsimp only at hSw)
          go_simp
          (try with_reducible rfl)
        (try dsimp only [Act.put, List.setIfInBounds_toArray, List.set_cons_zero, List.set_cons_succ])
        refine wpAnyH_take (i := 2) (v := ?_) rfl (by kernel_rfl) (by kernel_rfl) (by kernel_rfl) (fun _ _ _ h => h) (Or.inl ⟨by rfl, ?_⟩) (by assumption) ?_
        rotate_left
        · intro w1 hSw
          (try dsimp only at hSw)
          go_simp
          (try with_reducible rfl)
        (try dsimp only [Act.put, List.setIfInBounds_toArray, List.set_cons_zero, List.set_cons_succ])
        refine wpAnyH_ready (rs := [3]) (by kernel_rfl) (by simp) ?_
        refine AllReadyH.cons rfl (fun K hK => ?_) AllReadyH.nil
        go_simp
        refine (refWithout_any _ l (x1, x2) _ (RWants.stable.up HRa.out (Below.refl _ _).drew) (by omega)).mono ?_
        rintro e w7 ⟨v7, rfl, ho7, b7⟩
        obtain ⟨A7, c7, rfl⟩ := ho7.shape
        have HB7 := Lib.hid (show Below wa.heap.size wa w7 from (Below.refl _ _).drew.trans b7)
        have HR7 := Lib.hid (show RWants w7 (Lt w7.heap.size) _ _ from RWants.stable.sub ho7.reads fun b hb => hb.2)
        clear ho7 b7
        dsimp only
        refine hK.out _ _ (Hcells.out _ HB7.out) (fun hHeld => ?_)
        clear hK K
        (try dsimp only [Act.put, List.setIfInBounds_toArray, List.set_cons_zero, List.set_cons_succ])
        refine wpAnyH_ready (rs := [4]) (by kernel_rfl) (by simp) ?_
        refine AllReadyH.cons rfl (fun K hK => ?_) AllReadyH.nil
        go_simp
        refine (refOnly_any _ _ _ r items wss (withoutW l (x1, x2)) w7 (HDa.out.up HB7.out).rI (HDa.out.up HB7.out).rW HR7.out (rows_of_light Hl.out).2.1 (rows_of_light Hl.out).1).mono ?_
        intro e w8 hq8
        unfold OnlyPost at hq8
        obtain ⟨vI, vW, rfl, hI8, hW8, b8⟩ := hq8
        have HI8 := Lib.hid hI8
        have HW8 := Lib.hid hW8
        have HB8 := Lib.hid (HB7.out.trans (b8.mono HB7.out.size))
        clear hI8 hW8 b8
        dsimp only
        refine hK.out _ _ (Hcells.out _ HB8.out) (fun hHeld => ?_)
        clear hK K
        (try dsimp only [Act.put, List.setIfInBounds_toArray, List.set_cons_zero, List.set_cons_succ])
        refine wpAnyH_ready (rs := [5]) (by kernel_rfl) (by simp) ?_
        refine AllReadyH.cons rfl (fun K hK => ?_) AllReadyH.nil
        go_simp
        refine (blamed_any vI vW r items (onlyW (withoutW l (x1, x2)) wss) w8 HI8.out HW8.out (by have := (rows_of_light Hl.out).2.2.1; omega)).mono ?_
        rintro e w9 ⟨rfl, b9⟩
        have HB9 := Lib.hid (HB8.out.trans (b9.mono HB8.out.size))
        rw [← HBe.out, Hno.out]
        clear b9
        dsimp only
        refine hK.out _ _ (Hcells.out _ HB9.out) (fun hHeld => ?_)
        clear hK K
        (try dsimp only [Act.put, List.setIfInBounds_toArray, List.set_cons_zero, List.set_cons_succ])
        refine wpAnyH_done (by kernel_rfl) ?_ _
        clear g0 g1 g2 g3 g4
        go_wp2
        go_roundw
        case rel => exact ⟨k + 1, by omega, by go_num, Lib.hid (HBk.out.trans ((Hba.out.trans (HB9.out.mono Hba.out.size)).mono HBk.out.size))⟩
        case measure => simp [intOf]; omega
      · obtain rfl : k = l.length := by omega
        go_wp2_with (go_at_call 9; with_reducible refine (lives_any _).mono ?_; rintro e w7 ⟨rfl, hb⟩; have HB7 := Lib.hid (HDk.out.up hb).bel; clear hb)
        go_ret
        exact ⟨rfl, HB7.out⟩
end Go.Proofs.Ytcebafeaikipmaa
