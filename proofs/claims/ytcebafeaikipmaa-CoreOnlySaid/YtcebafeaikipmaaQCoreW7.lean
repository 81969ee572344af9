/- Only and the reference's, with a set that what they make lies in. -/
import Derived.Deep.DeepCutAuto
import Derived.Deep.RegionLaw
import Derived.Test.YtcebafeaikipmaaCb2
namespace Go.Proofs.Ytcebafeaikipmaa
open Go.RowKit
open S15 (Ch ch_new ch_set ch_grown)

def OnlyPostE (E : Nat → Prop) (items : List ItemD) (wss : List (List (List Int))) (r : Int) (l : List WantD) (w : World) (e : Ending) (w' : World) : Prop :=
  ∃ vI vW, e = .returned (.agg #[vI, vW, .int .i64 r]) ∧ RItems w' (fun b => b < w'.heap.size ∧ E b) vI items ∧ RIntsss w' (fun b => b < w'.heap.size ∧ E b) vW (onlyW l wss) ∧ Below w.heap.size w w'
set_option maxRecDepth 100000 in
set_option maxHeartbeats 4000000 in
theorem refOnly_E (E : Nat → Prop) (s0 s1 sl : Value) (r : Int) (items : List ItemD) (wss : List (List (List Int))) (l : List WantD) (w : World) (hE : ∀ b, w.heap.size ≤ b → E b) (h0 : RItems w (fun b => b < w.heap.size ∧ E b) s0 items) (hw : RIntsss w (fun b => b < w.heap.size ∧ E b) s1 wss) (hl : RWants w (Lt w.heap.size) sl l) (hb1 : wss.length ≤ 1000) (hb2 : ∀ ws ∈ wss, ws.length ≤ 1000) :
    Calls Try.prog 11 #[.agg #[s0, s1, .int .i64 r], sl] w (OnlyPostE E items wss r l w) := by
  obtain ⟨A0, c0, rfl, hm0, -⟩ := h0.open_
  obtain ⟨A1, c1, rfl, hm1, hat1⟩ := hw.open_
  obtain ⟨AL, cL, rfl, hmL, -⟩ := hl.open_
  have H0 := Lib.hid h0
  have Hat := Lib.hid hat1
  have HL := Lib.hid hl
  have Hlen := Lib.hid hb2
  clear h0 hw hl hat1 hb2
  go_enter Try.func11, Try.ntmps11
  go_wp2
  obtain ⟨w1, hw1⟩ : ∃ w1, w1 = ((w.alloc (.cells #[.slice A0 items.length c0, .slice A1 wss.length c1, .int .i64 r] 25)).alloc (.cells #[.slice none 0 0, .slice none 0 0, .int .i64 0] 25)).alloc (.cells #[.slice A0 items.length c0, .slice none 0 0, .int .i64 r] 25) := ⟨_, rfl⟩
  obtain ⟨P, hP⟩ : ∃ P, P = w.heap.size + 2 := ⟨_, rfl⟩
  have Hb0 := Lib.hid (show Below w.heap.size w w1 by rw [hw1]; exact (((below_alloc w _).alloc (by simp) _).alloc (by simp; omega) _))
  have hs1 : w1.heap.size = P + 1 := by rw [hw1, hP]; simp
  have hP0 : w.heap.size + 1 < P := by omega
  have Hx1 := Lib.hid (show w1.cell? ⟨w.heap.size, 1, none⟩ = some (.slice A1 wss.length c1) by rw [hw1]; simp [go_sem])
  have Hq1 := Lib.hid (show w1.heap[w.heap.size + 1]? = some (.cells #[.slice none 0 0, .slice none 0 0, .int .i64 0] 25 (0, 0)) by rw [hw1]; exact heap_at_alloc (by have := heap_alloc_new (w.alloc (.cells #[.slice A0 items.length c0, .slice A1 wss.length c1, .int .i64 r] 25)) (.cells #[.slice none 0 0, .slice none 0 0, .int .i64 0] 25); rwa [World.size_alloc] at this))
  have Hr1 := Lib.hid (show w1.heap[P]? = some (.cells #[.slice A0 items.length c0, .slice none 0 0, .int .i64 r] 25 (0, 0)) by rw [hw1]; exact heap_new (by rw [hP]; simp))
  have HP0 := Lib.hid hP0
  have Hs1 := Lib.hid hs1
  rw [← hw1, show w.heap.size + 1 + 1 = P by omega]
  clear hw1 hP hs1
  go_loopw [18] (fun sv wr => ∃ (i : Nat) (vW : Value) (us : List Value), i ≤ wss.length ∧ sv = .int .i64 i ∧ Hid (wr.heap[P]? = some (.cells #[.slice A0 items.length c0, vW, .int .i64 r] 25 (0, 0))) ∧ Hid (RowsH RIntss 36 wr (P + 1) (fun b => b ≠ P ∧ b ≠ w.heap.size + 1 ∧ E b) vW us (onlyTo l wss i)) ∧ Hid (Below P w1 wr)) (fun sv _ => wss.length - (intOf sv).toNat)
  case atStart => exact ⟨0, _, [], Nat.zero_le _, rfl, Hr1, Lib.hid (RowsH.nil _ _ _ _ _), Lib.hid (Below.refl _ _)⟩
  case round =>
    obtain ⟨wi, hwi⟩ : ∃ w0 : World, w0 = wr := ⟨_, rfl⟩
    rw [← hwi] at hrel ⊢
    clear hwi
    obtain ⟨i, vW, us, hi, rfl, HPc, HR, HC⟩ := hrel
    obtain ⟨AW, cW, hvW⟩ := own_shape HR.out.own
    rw [onlyTo_len] at hvW
    subst hvW
    have Hbw := Lib.hid (show Below w.heap.size w wi from Hb0.out.trans (HC.out.mono (by have := HP0.out; omega)))
    have hPl : P < wi.heap.size := (Array.getElem?_eq_some_iff.1 HPc.out).1
    have hk1 : wi.cell? ⟨w.heap.size, 1, none⟩ = some (.slice A1 wss.length c1) := by
      rw [World.cell?_of_block (w := w1) (HC.out.block w.heap.size (by omega))]; exact Hx1.out
    rcases Nat.lt_or_ge i wss.length with hlt | hge
    · obtain ⟨b, off, u, rfl, hbE, hc, hu⟩ := Hat.out.at_ RIntss.stable ((ag_of_below Hbw.out).sub fun b hb => hb.1) hlt
      have hb := hbE.1
      obtain ⟨A2, c2, rfl, hm2, hat2⟩ := hu.open_
      have Hat2 := Lib.hid hat2
      have Hgd := Lib.hid (getD_at hlt)
      have Hln := Lib.hid (Hlen.out _ (List.getElem_mem hlt))
      obtain ⟨ws, hws⟩ : ∃ ws, ws = wss[i] := ⟨_, rfl⟩
      rw [← hws] at Hat2 Hgd hc hm2 Hln
      have hws2 : ws.length ≤ 1000 := Hln.out
      clear hws hu hat2
      go_wp2
      go_loopw [27, 7] (fun sv vL wr => ∃ (k : Nat) (ls : List Value), k ≤ ws.length ∧ sv = .int .i64 k ∧ Hid (RowsH RInts 37 wr wi.heap.size (fun b => (b ≠ P ∧ b ≠ w.heap.size + 1 ∧ E b) ∧ some b ≠ (Value.slice AW i cW).ownBlock) vL ls (onlyRow l i ws k)) ∧ Hid (Below wi.heap.size wi wr)) (fun sv _ _ => ws.length - (intOf sv).toNat)
      case atStart => exact ⟨0, [], Nat.zero_le _, rfl, Lib.hid (RowsH.nil _ _ _ _ _), Lib.hid (Below.refl _ _)⟩
      case round =>
        obtain ⟨wk, hwk⟩ : ∃ w0 : World, w0 = wr := ⟨_, rfl⟩
        rw [← hwk] at hrel ⊢
        clear hwk
        obtain ⟨k, ls, hk, rfl, HRk, HBk⟩ := hrel
        have Hbk := Lib.hid (Hbw.out.trans (HBk.out.mono Hbw.out.size))
        rcases Nat.lt_or_ge k ws.length with hlt2 | hge2
        · obtain ⟨b2, off2, u2, rfl, hb2E, hc2, hu2⟩ := Hat2.out.at_ RInts.stable ((ag_of_below (HBk.out.mono Hbw.out.size)).sub fun b hb => hb.1) hlt2
          have hb2 := hb2E.1
          obtain ⟨A3, c3, rfl, hm3, -⟩ := hu2.open_
          have Hu2 := Lib.hid hu2
          have Hsu := Lib.hid (onlyRow_succ (l := l) (i := i) hlt2)
          have Hhas := Lib.hid (refHas27_any _ l (i : Int) (k : Int) wk (RWants.stable.up HL.out Hbk.out))
          obtain ⟨AV, cV, hvV⟩ := own_shape HRk.out.own
          obtain ⟨L, hL⟩ : ∃ L, L = (onlyRow l i ws k).length := ⟨_, rfl⟩
          have HL0 := Lib.hid hL
          have hLk : L ≤ 1000 := by have := onlyRow_len l i ws k; omega
          rw [← hL] at hvV
          subst hvV
          obtain ⟨x, hx⟩ : ∃ x, x = ws[k] := ⟨_, rfl⟩
          rw [← hx] at Hu2 hc2 hm3 Hsu
          clear hL hx hu2
          have hbl : b2 < wk.heap.size := Nat.lt_of_lt_of_le hb2 Hbk.out.size
          cases hd : hasW l ((i : Int), (k : Int)) with
          | false =>
            have Hr := Lib.hid (show onlyRow l i ws (k + 1) = onlyRow l i ws k by rw [Hsu.out, hd]; simp)
            have Hd := Lib.hid hd
            clear hd
            go_wp2_with (go_at_call 25; with_reducible refine Hhas.out.mono ?_; rintro e w3 ⟨rfl, b3⟩; go_loud (rw [Hd.out]; have HB3 := Lib.hid b3; clear b3))
            go_roundw
            case rel => exact ⟨k + 1, ls, by omega, by go_num, Lib.hid (by rw [Hr.out]; exact HRk.out.up RInts.stable HB3.out), Lib.hid (HBk.out.trans (HB3.out.mono HBk.out.size))⟩
            case measure => simp [intOf]; omega
          | true =>
            have Hr := Lib.hid (show onlyRow l i ws (k + 1) = onlyRow l i ws k ++ [x] by rw [Hsu.out, hd]; simp)
            have Hd := Lib.hid hd
            clear hd
            go_wp2_with (first
              | (go_at_call 25; with_reducible refine Hhas.out.mono ?_; rintro e w3 ⟨rfl, b3⟩; go_loud (rw [Hd.out]; have HB3 := Lib.hid b3; have hc3 := (b3.cell (p := ⟨b2, off2 + k, none⟩) hbl).trans hc2; have HR3 := Lib.hid (HRk.out.up RInts.stable b3); have hs3 : wi.heap.size ≤ w3.heap.size := Nat.le_trans HBk.out.size b3.size; have HO3 := Lib.hid (show w3.ownsRow wi.heap.size 37 1 (.slice AV L cV) L ls by have := HR3.out.own; rwa [← HL0.out] at this); clear b3))
              | (at_builtin; go_loud (refine wpList_push rfl _ _ _ rfl eRow (v := .slice AV L cV) rfl (HO3.out.alloc _) w3.heap.size (.slice A3 x.length c3) rfl (by simp [go_sem]) rfl (by omega) (by simp; omega) ?_; intro v4 w4 hown4 hg4 hat4; have HO4 := Lib.hid hown4; have HG4 := Lib.hid hg4; have HT4 := Lib.hid hat4; clear hown4 hg4 hat4)))
            have hpu := HR3.out.push RInts.stable (below_alloc w3 (.cells #[.slice A3 x.length c3] 37)) (u := .slice A3 x.length c3) (c := x) (RInts.stable _ _ _ _ _ _ Hu2.out (fun b hb => (Below.heap_alloc w3 _ b (Nat.lt_of_lt_of_le hb.1 (Nat.le_trans Hbk.out.size HB3.out.size))).trans (HB3.out.block b (Nat.lt_of_lt_of_le hb.1 Hbk.out.size))) fun b hb => (by
                have h1 : b < w.heap.size := hb.1
                have h2 := HP0.out
                have h3 := Hbw.out.size
                refine ⟨⟨⟨by omega, by omega, hb.2⟩, fun e => by have := (HR.out.lt b e.symm).1; omega⟩, by simp; omega, fun e => by have := (HR3.out.lt b e.symm).1; omega⟩)) (by rw [← HL0.out]; exact HO4.out) HG4.out HT4.out
            have HR4 := Lib.hid hpu
            have HB4 := Lib.hid ((HBk.out.trans (HB3.out.mono HBk.out.size)).trans (((below_alloc w3 (.cells #[.slice A3 x.length c3] 37)).mono hs3).grown HG4.out (by simp; omega) (fun g hg => (HR3.out.lt g hg).1)))
            clear hpu
            go_roundw
            case rel => exact ⟨k + 1, _, by omega, by go_num, Lib.hid (by rw [Hr.out]; exact HR4.out), HB4⟩
            case measure => simp [intOf]; omega
        · obtain rfl : k = ws.length := by omega
          obtain ⟨AV, cV, hvV⟩ := own_shape HRk.out.own
          subst hvV
          have hPk := (HBk.out.block P hPl).trans HPc.out
          have hx1 : wk.cell? ⟨P, 1, none⟩ = some (.slice AW i cW) := by rw [cell_of_row _ _ 1 _ _ _ hPk]; rfl
          have HPk := Lib.hid hPk
          have HRW := Lib.hid (HR.out.up RIntss.stable HBk.out)
          have HOW := Lib.hid (show wk.ownsRow (P + 1) 36 1 (.slice AW i cW) i us by have := HRW.out.own; rwa [onlyTo_len] at this)
          have hsk : P + 1 ≤ wk.heap.size := Nat.le_trans hPl HBk.out.size
          have hsk2 : P < wk.heap.size := hsk
          clear hPk
          go_wp2_with (at_builtin; go_loud (refine wpList_push rfl _ _ _ rfl eWantss (v := .slice AW i cW) rfl (HOW.out.alloc _) wk.heap.size (.slice AV (onlyRow l i ws ws.length).length cV) rfl (by simp [go_sem]) rfl (by omega) (by simp; omega) ?_; intro v4 w4 hown4 hg4 hat4; obtain ⟨A4, c4, rfl⟩ := own_shape hown4; have hq4 := hg4.block P (by simp; omega) (fun e => by have := (HRW.out.lt P e.symm).1; omega); have hP4 := hq4.trans (heap_at_alloc (o := .cells #[.slice AV (onlyRow l i ws ws.length).length cV] 36) HPk.out); have hx4 : w4.cell? ⟨P, 1, none⟩ = some (.slice AW i cW) := (by rw [cell_of_row _ _ 1 _ _ _ hP4]; rfl); have hf4 : w4.frozen? ⟨P, 1, none⟩ = false := frozen_of_row w4 P 1 _ _ hP4; have HP4 := Lib.hid hP4; have HO4 := Lib.hid hown4; have HG4 := Lib.hid hg4; have HT4 := Lib.hid hat4; clear hown4 hg4 hat4 hq4 hP4))
          have hpu := HRW.out.push RIntss.stable (below_alloc wk (.cells #[.slice AV (onlyRow l i ws ws.length).length cV] 36)) (u := .slice AV (onlyRow l i ws ws.length).length cV) (c := onlyRow l i ws ws.length) (RIntss.stable _ _ _ _ _ _ (HRk.out.reads RInts.stable fun g hg => by
              have h1 := HRk.out.lt g hg
              have h2 := HP0.out
              exact ⟨⟨by omega, by omega, hE g (by have := Hbw.out.size; omega)⟩, fun e => by have := (HR.out.lt g e.symm).2; omega⟩) (fun b hb => Below.heap_alloc wk _ b hb.2) fun b hb => ⟨hb.1.1, by have := hb.2; simp; omega, hb.1.2⟩) (by rw [onlyTo_len]; exact HO4.out) HG4.out HT4.out
          have HR5 := Lib.hid (hpu.keep RIntss.stable (w' := w4.setCell ⟨P, 1, none⟩ (.slice A4 (i + 1) c4)) (fun b hb hS => Below.heap_setCell w4 ⟨P, 1, none⟩ _ b (by
              have h1 := hpu.lt
              rcases hS with hS | hS
              · exact hS.1
              · have := (h1 b hS).1; show b ≠ P; omega)) (by simp))
          have HC5 := Lib.hid (show Below P w1 (w4.setCell ⟨P, 1, none⟩ (.slice A4 (i + 1) c4)) from ((((HC.out.trans (HBk.out.mono (Nat.le_of_lt hPl))).alloc (Nat.le_of_lt hsk2) _).grown HG4.out (by simp; omega) (fun g hg => by have := (HRW.out.lt g hg).1; omega)).setCell (p := ⟨P, 1, none⟩) (Nat.le_refl _) _))
          have HP5 := Lib.hid (heap_setCell_same w4 P 1 _ _ (.slice A4 (i + 1) c4) HP4.out)
          clear hpu
          go_roundw
          case rel => exact ⟨i + 1, _, _, by omega, by go_num, HP5, Lib.hid (by rw [onlyTo, Hgd.out]; exact HR5.out), HC5⟩
          case measure => simp [intOf]; omega
    · obtain rfl : i = wss.length := by omega
      have hp0 := cell_of_row _ _ 0 _ _ _ HPc.out
      have hp1 := cell_of_row _ _ 1 _ _ _ HPc.out
      have hp2 := cell_of_row _ _ 2 _ _ _ HPc.out
      have hq := (HC.out.block (w.heap.size + 1) (by have := HP0.out; omega)).trans Hq1.out
      have hq0 := cell_of_row _ _ 0 _ _ _ hq
      have hq1 := cell_of_row _ _ 1 _ _ _ hq
      have hq2 := cell_of_row _ _ 2 _ _ _ hq
      have hqf := fun j => frozen_of_row wi (w.heap.size + 1) j _ _ hq
      have Hq := Lib.hid hq
      have hql : w.heap.size + 1 < wi.heap.size := by omega
      have HRd := Lib.hid (HR.out.reads RIntss.stable fun g hg => by have := (HR.out.lt g hg).1; have := HP0.out; exact ⟨by omega, by omega, hE g (by omega)⟩)
      clear hq
      go_wp2
      refine bodyPost_ret (v := .agg #[.slice A0 items.length c0, .slice AW wss.length cW, .int .i64 r]) (results_cell_row rfl _ _ (w.heap.size + 1) _ _ (0, 0) _ rfl (set3R Hq.out _ _ _) Try.underlying25 rfl (by kernel_rfl)) rfl ?_
      refine ⟨_, _, rfl, RItems.stable _ _ _ _ _ _ H0.out (fun b hb => ?_) (fun b hb => ?_), RIntsss.stable _ _ _ _ _ _ HRd.out (fun b hb => ?_) (fun b hb => ?_), below3R Hbw.out (by omega) _ _ _⟩
      · have h1 : b < w.heap.size := hb.1
        rw [ag3R (S := Lt (w.heap.size + 1)) (fun b hb => by have : b < w.heap.size + 1 := hb; omega) _ _ _ b (by show b < _; omega)]
        exact Hbw.out.block b h1
      · have h1 : b < w.heap.size := hb.1
        exact ⟨by have : b < wi.heap.size := by omega
                  simpa using this, hb.2⟩
      · exact ag3R (S := fun b => b ≠ w.heap.size + 1) (fun b hb => hb) _ _ _ b hb.1.2.1
      · exact ⟨by simpa using hb.2, hb.1.2.2⟩
set_option maxRecDepth 100000 in
set_option maxHeartbeats 4000000 in
theorem Only_E (E : Nat → Prop) (s0 s1 sl : Value) (r : Int) (items : List ItemD) (wss : List (List (List Int))) (l : List WantD) (w : World) (hE : ∀ b, w.heap.size ≤ b → E b) (h0 : RItems w (Lt w.heap.size) s0 items) (hw : RIntsss w (Lt w.heap.size) s1 wss) (hl : RWants w (Lt w.heap.size) sl l) (hb1 : wss.length ≤ 1000) (hb2 : ∀ ws ∈ wss, ws.length ≤ 1000) (hb3 : items.length ≤ 1000) (hb4 : ∀ ws ∈ wss, ∀ x ∈ ws, x.length ≤ 1000) :
    Calls Try.prog 10 #[.agg #[s0, s1, .int .i64 r], sl] w (OnlyPostE E items wss r l w) := by
  obtain ⟨A0, c0, rfl, hm0, -⟩ := h0.open_
  obtain ⟨A1, c1, rfl, hm1, hat1⟩ := hw.open_
  obtain ⟨AL, cL, rfl, hmL, -⟩ := hl.open_
  have H0 := Lib.hid h0
  have Hat := Lib.hid hat1
  have HL := Lib.hid hl
  have Hlen := Lib.hid hb2
  have Hlen4 := Lib.hid hb4
  clear h0 hw hl hat1 hb2 hb4
  go_enter Try.func10, Try.ntmps10
  go_upto_region 1 with fail
  obtain ⟨w0, hw0⟩ : ∃ w0, w0 = (w.alloc (.cells #[.slice A0 items.length c0, .slice A1 wss.length c1, .int .i64 r] 25)).alloc (.cells #[.slice none 0 0, .slice none 0 0, .int .i64 0] 25) := ⟨_, rfl⟩
  have Hbx := Lib.hid (show Below w.heap.size w w0 by rw [hw0]; exact (below_alloc w _).alloc (by simp) _)
  have hx0 : w0.cell? ⟨w.heap.size, 0, none⟩ = some (.slice A0 items.length c0) := by rw [hw0]; simp [go_sem]
  have hx1 : w0.cell? ⟨w.heap.size, 1, none⟩ = some (.slice A1 wss.length c1) := by rw [hw0]; simp [go_sem]
  have hx2 : w0.cell? ⟨w.heap.size, 2, none⟩ = some (.int .i64 r) := by rw [hw0]; simp [go_sem]
  have Hq0 := Lib.hid (show w0.heap[w.heap.size + 1]? = some (.cells #[.slice none 0 0, .slice none 0 0, .int .i64 0] 25 (0, 0)) by rw [hw0]; have := heap_alloc_new (w.alloc (.cells #[.slice A0 items.length c0, .slice A1 wss.length c1, .int .i64 r] 25)) (.cells #[.slice none 0 0, .slice none 0 0, .int .i64 0] 25); rwa [World.size_alloc] at this)
  have hz0 : w0.heap.size = w.heap.size + 2 := by rw [hw0]; simp
  have hzz : w.heap.size < w0.heap.size := by omega
  have Hz0 := Lib.hid hz0
  have Hx1' := Lib.hid hx1
  rw [← hw0]
  clear hw0 hz0
  have HCl := Lib.hid (fun (W : World) (h : Below w0.heap.size w0 W) => show Calls Try.prog 22 #[.slice A0 items.length c0] W fun e w3 => ∃ A c, e = .returned (.slice A items.length c) ∧ w3.cell? ⟨w.heap.size, 0, none⟩ = some (.slice A0 items.length c0) ∧ w3.cell? ⟨w.heap.size, 2, none⟩ = some (.int .i64 r) ∧ ((∀ b o, b < W.heap.size → w3.cell? ⟨b, o, none⟩ = W.cell? ⟨b, o, none⟩) ∧ (∀ b o, b < W.heap.size → w3.frozen? ⟨b, o, none⟩ = W.frozen? ⟨b, o, none⟩)) ∧ w.heap.size < w3.heap.size ∧ Hid (w3.ownsRow W.heap.size 35 5 (.slice A items.length c) items.length (items.flatMap itemCells) ∧ Below W.heap.size W w3) by
    refine (CloneItems_any _ items W (RItems.stable.up H0.out (Hbx.out.trans (h.mono Hbx.out.size))) (by omega)).mono ?_
    rintro e w3 ⟨v3, rfl, ho3, b3⟩
    obtain ⟨A, c, rfl⟩ := own_shape ho3
    have hWl : w.heap.size < W.heap.size := Nat.lt_of_lt_of_le hzz h.size
    exact ⟨A, c, rfl, (b3.cell (p := ⟨w.heap.size, 0, none⟩) hWl).trans ((h.cell (p := ⟨w.heap.size, 0, none⟩) hzz).trans hx0), (b3.cell (p := ⟨w.heap.size, 2, none⟩) hWl).trans ((h.cell (p := ⟨w.heap.size, 2, none⟩) hzz).trans hx2), bcell b3, Nat.lt_of_lt_of_le hWl b3.size, Lib.hid ⟨ho3, b3⟩⟩)
  go_cut [5] (fun s5 wx => ∃ P vI, s5 = .pointer (some ⟨P, 0, none⟩) ∧ Hid (OnlyMid w0 wx P vI r items))
  case first =>
    go_region_law (go_simp; go_at_call 22; (with_reducible refine (HCl.out _ (by repeat (first | exact Below.refl _ _ | refine Below.drew ?_ | refine Below.alloc ?_ (by simp) _))).mono ?_; rintro e w3 ⟨A5, c5, rfl, hy0, hy2, ⟨hcc, hff⟩, hsw3, HF3⟩))
    all_goals go_wp2
    all_goals go_meet
    all_goals first
      | exact ⟨_, _, rfl, Lib.hid (mid1 HF3.out (by repeat (first | exact Below.refl _ _ | refine Below.drew ?_ | refine Below.alloc ?_ (by simp) _)))⟩
      | exact ⟨_, _, rfl, Lib.hid (mid2 HF3.out (by repeat (first | exact Below.refl _ _ | refine Below.drew ?_ | refine Below.alloc ?_ (by simp) _)) (Nat.le_refl _) (heap_new (by simp)) rfl)⟩
  case rest =>
    obtain ⟨P, vI, rfl, HM⟩ := hcut
    obtain ⟨hM1, hM2, hM3, hM4⟩ := HM.out
    obtain ⟨AI, cI, hvI⟩ := hM4.shape
    subst hvI
    have HI := Lib.hid hM4
    have Hr1 := Lib.hid hM3
    have HP0 := Lib.hid (show w.heap.size + 1 < P by have := Hz0.out; omega)
    have Hb0 := Lib.hid (show Below w.heap.size w wc from Hbx.out.trans (hM2.mono Hbx.out.size))
    have hx1 : wc.cell? ⟨w.heap.size, 1, none⟩ = some (.slice A1 wss.length c1) := (hM2.cell (p := ⟨w.heap.size, 1, none⟩) hzz).trans Hx1'.out
    have Hq1 := Lib.hid ((hM2.block (w.heap.size + 1) (by have := Hz0.out; omega)).trans Hq0.out)
    have hPz : P < wc.heap.size := (Array.getElem?_eq_some_iff.1 hM3).1
    obtain ⟨Bz, hBz⟩ : ∃ Bz, Bz = wc.heap.size := ⟨_, rfl⟩
    rw [← hBz] at HI hPz
    have HBz := Lib.hid hBz
    clear hM1 hM2 hM3 hM4 HM HCl hx0 hx2 hzz
    go_wp2
    clear hx1
    go_loopw [20] (fun sv wr => ∃ (i : Nat) (vW : Value) (us : List Value), i ≤ wss.length ∧ sv = .int .i64 i ∧ Hid (wr.heap[P]? = some (.cells #[.slice AI items.length cI, vW, .int .i64 r] 25 (0, 0))) ∧ Hid (RowsH RIntss 36 wr Bz (fun b => b ≠ P ∧ b ≠ w.heap.size + 1 ∧ E b) vW us (onlyTo l wss i)) ∧ Hid (Ch (fun b => b = P ∨ Bz ≤ b) wc wr)) (fun sv _ => wss.length - (intOf sv).toNat)
    case atStart => exact ⟨0, _, [], Nat.zero_le _, rfl, Hr1, Lib.hid (RowsH.nil _ _ _ _ _), Lib.hid (Ch.refl _ _)⟩
    case round =>
      obtain ⟨wi, hwi⟩ : ∃ w0 : World, w0 = wr := ⟨_, rfl⟩
      rw [← hwi] at hrel ⊢
      clear hwi
      obtain ⟨i, vW, us, hi, rfl, HPc, HR, HC⟩ := hrel
      obtain ⟨AW, cW, hvW⟩ := own_shape HR.out.own
      rw [onlyTo_len] at hvW
      subst hvW
      have Hbw := Lib.hid (show Below w.heap.size w wi from Hb0.out.trans (HC.out.below (fun b hb => by have := HP0.out; omega) Hb0.out.size))
      have hBi : Bz ≤ wi.heap.size := by rw [HBz.out]; exact HC.out.size
      have hPl : P < wi.heap.size := (Array.getElem?_eq_some_iff.1 HPc.out).1
      rcases Nat.lt_or_ge i wss.length with hlt | hge
      · obtain ⟨b, off, u, rfl, hb, hc, hu⟩ := Hat.out.at_ RIntss.stable (ag_of_below Hbw.out) hlt
        obtain ⟨A2, c2, rfl, hm2, hat2⟩ := hu.open_
        have Hat2 := Lib.hid hat2
        have Hgd := Lib.hid (getD_at hlt)
        have Hln := Lib.hid (Hlen.out _ (List.getElem_mem hlt))
        have Hln4 := Lib.hid (Hlen4.out _ (List.getElem_mem hlt))
        obtain ⟨ws, hws⟩ : ∃ ws, ws = wss[i] := ⟨_, rfl⟩
        rw [← hws] at Hat2 Hgd hc hm2 Hln Hln4
        have hws2 : ws.length ≤ 1000 := Hln.out
        clear hws hu hat2
        go_wp2
        go_loopw [27, 8] (fun sv vL wr => ∃ (k : Nat) (ls : List Value), k ≤ ws.length ∧ sv = .int .i64 k ∧ Hid (RowsH RInts 37 wr wi.heap.size (fun b => (b ≠ P ∧ b ≠ w.heap.size + 1 ∧ E b) ∧ some b ≠ (Value.slice AW i cW).ownBlock) vL ls (onlyRow l i ws k)) ∧ Hid (Below wi.heap.size wi wr)) (fun sv _ _ => ws.length - (intOf sv).toNat)
        case atStart => exact ⟨0, [], Nat.zero_le _, rfl, Lib.hid (RowsH.nil _ _ _ _ _), Lib.hid (Below.refl _ _)⟩
        case round =>
          obtain ⟨wk, hwk⟩ : ∃ w0 : World, w0 = wr := ⟨_, rfl⟩
          rw [← hwk] at hrel ⊢
          clear hwk
          obtain ⟨k, ls, hk, rfl, HRk, HBk⟩ := hrel
          have Hbk := Lib.hid (Hbw.out.trans (HBk.out.mono Hbw.out.size))
          rcases Nat.lt_or_ge k ws.length with hlt2 | hge2
          · obtain ⟨b2, off2, u2, rfl, hb2, hc2, hu2⟩ := Hat2.out.at_ RInts.stable (ag_of_below (HBk.out.mono Hbw.out.size)) hlt2
            obtain ⟨A3, c3, rfl, hm3, -⟩ := hu2.open_
            have HuX := Lib.hid (show RInts wk (Lt wk.heap.size) _ _ from RInts.stable.sub hu2 fun b (hb : b < _) => (Nat.lt_of_lt_of_le hb Hbk.out.size : b < _))
            have hxl : (ws[k]).length ≤ 1000000 := Nat.le_trans (Hln4.out _ (List.getElem_mem hlt2)) (by omega)
            have Hsu := Lib.hid (onlyRow_succ (l := l) (i := i) hlt2)
            have Hhas := Lib.hid (has27_any _ l ((i : Int), (k : Int)) wk (RWants.stable.up HL.out Hbk.out))
            obtain ⟨AV, cV, hvV⟩ := own_shape HRk.out.own
            obtain ⟨L, hL⟩ : ∃ L, L = (onlyRow l i ws k).length := ⟨_, rfl⟩
            have HL0 := Lib.hid hL
            have hLk : L ≤ 1000 := by have := onlyRow_len l i ws k; omega
            rw [← hL] at hvV
            subst hvV
            obtain ⟨x, hx⟩ : ∃ x, x = ws[k] := ⟨_, rfl⟩
            rw [← hx] at HuX hc2 hm3 Hsu hxl
            clear hL hx hu2
            have hbl : b2 < wk.heap.size := Nat.lt_of_lt_of_le hb2 Hbk.out.size
            cases hd : hasW l ((i : Int), (k : Int)) with
            | false =>
              have Hr := Lib.hid (show onlyRow l i ws (k + 1) = onlyRow l i ws k by rw [Hsu.out, hd]; simp)
              have Hd := Lib.hid hd
              clear hd
              go_wp2_with (go_at_call 23; with_reducible refine Hhas.out.mono ?_; rintro e w3 ⟨rfl, b3⟩; go_loud (rw [Hd.out]; have HB3 := Lib.hid b3; clear b3))
              go_roundw
              case rel => exact ⟨k + 1, ls, by omega, by go_num, Lib.hid (by rw [Hr.out]; exact HRk.out.up RInts.stable HB3.out), Lib.hid (HBk.out.trans (HB3.out.mono HBk.out.size))⟩
              case measure => simp [intOf]; omega
            | true =>
              have Hr := Lib.hid (show onlyRow l i ws (k + 1) = onlyRow l i ws k ++ [x] by rw [Hsu.out, hd]; simp)
              have Hd := Lib.hid hd
              clear hd
              go_wp2_with (first
                | (go_at_call 23; with_reducible refine Hhas.out.mono ?_; rintro e w3 ⟨rfl, b3⟩; go_loud (rw [Hd.out]; have HB3 := Lib.hid b3; have HR3 := Lib.hid (HRk.out.up RInts.stable b3); have hs3 : wi.heap.size ≤ w3.heap.size := Nat.le_trans HBk.out.size b3.size; have HO3 := Lib.hid (show w3.ownsRow wi.heap.size 37 1 (.slice AV L cV) L ls by have := HR3.out.own; rwa [← HL0.out] at this); clear b3))
                | (go_at_call 24; with_reducible refine (S16.Clone_any _ x w3 (RInts.stable.up HuX.out HB3.out) hxl).mono ?_; rintro e w5 ⟨v5, rfl, ho5, b5⟩; go_loud (obtain ⟨A5, c5, rfl⟩ := own_shape ho5; have HB5 := Lib.hid b5; have HRd5 := Lib.hid (ints_own ho5); have HR5 := Lib.hid (HR3.out.up RInts.stable b5); have hs5 : wi.heap.size ≤ w5.heap.size := Nat.le_trans hs3 b5.size; have HO5 := Lib.hid (show w5.ownsRow wi.heap.size 37 1 (.slice AV L cV) L ls by have := HR5.out.own; rwa [← HL0.out] at this); clear b5 ho5))
                | (at_builtin; go_loud (refine wpList_push rfl _ _ _ rfl eRow (v := .slice AV L cV) rfl (HO5.out.alloc _) w5.heap.size (.slice A5 x.length c5) rfl (by simp [go_sem]) rfl (by omega) (by simp; omega) ?_; intro v4 w4 hown4 hg4 hat4; have HO4 := Lib.hid hown4; have HG4 := Lib.hid hg4; have HT4 := Lib.hid hat4; clear hown4 hg4 hat4)))
              have hpu := HR5.out.push RInts.stable (below_alloc w5 (.cells #[.slice A5 x.length c5] 37)) (u := .slice A5 x.length c5) (c := x) (RInts.stable _ _ _ _ _ _ HRd5.out (fun b hb => Below.heap_alloc w5 _ b hb.2) fun b hb => (by
                  have h2 := HP0.out
                  have h3 := HB3.out.size
                  have h4 := HBk.out.size
                  refine ⟨⟨⟨by omega, by omega, hE b (by have := Hbw.out.size; have := hb.1; omega)⟩, fun e => by have := (HR.out.lt b e.symm).2; omega⟩, by simp; omega, fun e => by have := (HR3.out.lt b e.symm).2; omega⟩)) (by rw [← HL0.out]; exact HO4.out) HG4.out HT4.out
              have HR4 := Lib.hid hpu
              have HB4 := Lib.hid (((HBk.out.trans (HB3.out.mono HBk.out.size)).trans (HB5.out.mono hs3)).trans (((below_alloc w5 (.cells #[.slice A5 x.length c5] 37)).mono hs5).grown HG4.out (by simp; omega) (fun g hg => (HR3.out.lt g hg).1)))
              clear hpu
              go_roundw
              case rel => exact ⟨k + 1, _, by omega, by go_num, Lib.hid (by rw [Hr.out]; exact HR4.out), HB4⟩
              case measure => simp [intOf]; omega
          · obtain rfl : k = ws.length := by omega
            obtain ⟨AV, cV, hvV⟩ := own_shape HRk.out.own
            subst hvV
            have hPk := (HBk.out.block P hPl).trans HPc.out
            have hx1 : wk.cell? ⟨P, 1, none⟩ = some (.slice AW i cW) := by rw [cell_of_row _ _ 1 _ _ _ hPk]; rfl
            have HPk := Lib.hid hPk
            have HRW := Lib.hid (HR.out.up RIntss.stable HBk.out)
            have HOW := Lib.hid (show wk.ownsRow Bz 36 1 (.slice AW i cW) i us by have := HRW.out.own; rwa [onlyTo_len] at this)
            have hsk2 : P < wk.heap.size := Nat.lt_of_lt_of_le hPl HBk.out.size
            have hsk : Bz ≤ wk.heap.size := Nat.le_trans hBi HBk.out.size
            clear hPk
            go_wp2_with (at_builtin; go_loud (refine wpList_push rfl _ _ _ rfl eWantss (v := .slice AW i cW) rfl (HOW.out.alloc _) wk.heap.size (.slice AV (onlyRow l i ws ws.length).length cV) rfl (by simp [go_sem]) rfl (by omega) (by simp; omega) ?_; intro v4 w4 hown4 hg4 hat4; obtain ⟨A4, c4, rfl⟩ := own_shape hown4; have hq4 := hg4.block P (by simp; omega) (fun e => by have := (HRW.out.lt P e.symm).1; omega); have hP4 := hq4.trans (heap_at_alloc (o := .cells #[.slice AV (onlyRow l i ws ws.length).length cV] 36) HPk.out); have hx4 : w4.cell? ⟨P, 1, none⟩ = some (.slice AW i cW) := (by rw [cell_of_row _ _ 1 _ _ _ hP4]; rfl); have hf4 : w4.frozen? ⟨P, 1, none⟩ = false := frozen_of_row w4 P 1 _ _ hP4; have HP4 := Lib.hid hP4; have HO4 := Lib.hid hown4; have HG4 := Lib.hid hg4; have HT4 := Lib.hid hat4; clear hown4 hg4 hat4 hq4 hP4))
            have hpu := HRW.out.push RIntss.stable (below_alloc wk (.cells #[.slice AV (onlyRow l i ws ws.length).length cV] 36)) (u := .slice AV (onlyRow l i ws ws.length).length cV) (c := onlyRow l i ws ws.length) (RIntss.stable _ _ _ _ _ _ (HRk.out.reads RInts.stable fun g hg => by
                have h1 := HRk.out.lt g hg
                have h2 := HP0.out
                exact ⟨⟨by omega, by omega, hE g (by have := Hbw.out.size; omega)⟩, fun e => by have := (HR.out.lt g e.symm).2; omega⟩) (fun b hb => Below.heap_alloc wk _ b hb.2) fun b hb => ⟨hb.1.1, by have := hb.2; simp; omega, hb.1.2⟩) (by rw [onlyTo_len]; exact HO4.out) HG4.out HT4.out
            have HR5 := Lib.hid (hpu.keep RIntss.stable (w' := w4.setCell ⟨P, 1, none⟩ (.slice A4 (i + 1) c4)) (fun b hb hS => Below.heap_setCell w4 ⟨P, 1, none⟩ _ b (by
                have h1 := hpu.lt
                rcases hS with hS | hS
                · exact hS.1
                · have := (h1 b hS).1; show b ≠ P; omega)) (by simp))
            have HC5 := Lib.hid (show Ch (fun b => b = P ∨ Bz ≤ b) wc (w4.setCell ⟨P, 1, none⟩ (.slice A4 (i + 1) c4)) from
              (((HC.out.trans (ch_new HBk.out _)).trans (ch_new (below_alloc wk _) _)).trans ((ch_grown HG4.out).imp fun j _ e => .inr (HRW.out.lt j e.symm).1)).trans ((ch_set w4 P 1 _).imp fun j _ e => .inl e))
            have HP5 := Lib.hid (heap_setCell_same w4 P 1 _ _ (.slice A4 (i + 1) c4) HP4.out)
            clear hpu
            go_roundw
            case rel => exact ⟨i + 1, _, _, by omega, by go_num, HP5, Lib.hid (by rw [onlyTo, Hgd.out]; exact HR5.out), HC5⟩
            case measure => simp [intOf]; omega
      · obtain rfl : i = wss.length := by omega
        have hp0 := cell_of_row _ _ 0 _ _ _ HPc.out
        have hp1 := cell_of_row _ _ 1 _ _ _ HPc.out
        have hp2 := cell_of_row _ _ 2 _ _ _ HPc.out
        have hq := (HC.out.block (w.heap.size + 1) (by have := HP0.out; omega) (by have := HP0.out; omega)).trans Hq1.out
        have hq0 := cell_of_row _ _ 0 _ _ _ hq
        have hq1 := cell_of_row _ _ 1 _ _ _ hq
        have hq2 := cell_of_row _ _ 2 _ _ _ hq
        have hqf := fun j => frozen_of_row wi (w.heap.size + 1) j _ _ hq
        have Hq := Lib.hid hq
        have hql : w.heap.size + 1 < wi.heap.size := by have := HP0.out; omega
        have HRd := Lib.hid (HR.out.reads RIntss.stable fun g hg => by have := (HR.out.lt g hg).1; have := HP0.out; exact ⟨by omega, by omega, hE g (by have := HBz.out; have := Hz0.out; omega)⟩)
        clear hq
        go_wp2
        refine bodyPost_ret (v := .agg #[.slice AI items.length cI, .slice AW wss.length cW, .int .i64 r]) (results_cell_row rfl _ _ (w.heap.size + 1) _ _ (0, 0) _ rfl (set3R Hq.out _ _ _) Try.underlying25 rfl (by kernel_rfl)) rfl ?_
        refine ⟨_, _, rfl, RItems.stable _ _ _ _ _ _ HI.out (fun b hb => ?_) (fun b hb => ?_), RIntsss.stable _ _ _ _ _ _ HRd.out (fun b hb => ?_) (fun b hb => ?_), below3R Hbw.out (by omega) _ _ _⟩
        · have h1 := Hz0.out
          rw [ag3R (S := fun b => b ≠ w.heap.size + 1) (fun b hb => hb) _ _ _ b (by omega)]
          exact HC.out.block b (by rw [← HBz.out]; exact hb.2.1) (by omega)
        · have h1 := hb.2.1
          have : b < wi.heap.size := by omega
          exact ⟨by simpa using this, hE b (by have := hb.1; have := Hz0.out; omega)⟩
        · exact ag3R (S := fun b => b ≠ w.heap.size + 1) (fun b hb => hb) _ _ _ b hb.1.2.1
        · exact ⟨by simpa using hb.2, hb.1.2.2⟩
end Go.Proofs.Ytcebafeaikipmaa
