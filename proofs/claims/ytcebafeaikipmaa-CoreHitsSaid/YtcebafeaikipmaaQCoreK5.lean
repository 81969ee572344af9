/- The law CoreHits, walked. -/
import Derived.Test.YtcebafeaikipmaaCb8
namespace Go.Proofs.Ytcebafeaikipmaa
open Go.RowKit

theorem OwnW.up {w w' : World} {B : Nat} {v : Value} {l : List WantD} (h : OwnW w B v l) (hb : Below w.heap.size w w') : OwnW w' B v l := by
  refine ⟨h.1, ?_⟩
  rcases h.2 with h2 | ⟨g, cap, cur, e1, e2, e3, e4⟩
  · exact .inl h2
  · exact .inr ⟨g, cap, cur, e1, e2, (hb.block g (Array.getElem?_eq_some_iff.1 e3).1).trans e3, e4⟩
theorem RWants.first {w w' : World} {A : Option Addr} {n c : Nat} {x : WantD} {xs : List WantD} (h : RWants w (Lt w.heap.size) (.slice A n c) (x :: xs)) (hb : Below w.heap.size w w') :
    ∃ b off, A = some ⟨b, off, none⟩ ∧ w'.cell? ⟨b, off, none⟩ = some (.int .i64 x.1) ∧ w'.cell? ⟨b, off + 1, none⟩ = some (.int .i64 x.2) := by
  obtain ⟨A', c', e, hm, hat⟩ := h.open_
  simp only [Value.slice.injEq] at e
  obtain ⟨rfl, -, rfl⟩ := e
  obtain ⟨b, off, rfl, -, h1, h2⟩ := RWants.at2 (k := 0) hat hb (by simp)
  simp only [Nat.zero_mul, Nat.add_zero, List.getElem_cons_zero] at h1 h2
  exact ⟨b, off, rfl, h1, h2⟩
theorem hi_at {w : World} {S : Nat → Prop} {A : Option Addr} {n c k : Nat} {rows : List (List WantD)} {row : List WantD} (h : RSl RWants w S (.slice A n c) rows) (hk : rows[k]? = some row) :
    ∃ u, (∃ b off, A = some ⟨b, off, none⟩ ∧ w.cell? ⟨b, off + k, none⟩ = some u) ∧ RWants w S u row := by
  obtain ⟨A', c', e, _, _, hat⟩ := h
  simp only [Value.slice.injEq] at e
  obtain ⟨rfl, -, rfl⟩ := e
  have hlt := (List.getElem?_eq_some_iff.1 hk).1
  obtain ⟨b, off, rfl, hS, hc⟩ := hat (by omega)
  obtain ⟨u, hu, hr⟩ := hc k hlt
  rw [List.getElem?_eq_getElem hlt] at hk
  cases hk
  exact ⟨u, ⟨b, off, rfl, hu⟩, hr⟩
set_option maxRecDepth 100000 in
set_option maxHeartbeats 8000000 in
theorem walk_CoreHits (W : World) (v0 v1 : Value) (a0 : Arg Try.prog W 25 v0) (a1 : Arg Try.prog W 3 v1) : Calls Try.prog 7 #[v0, v1] W fun e W' => e = .returned (.bool true) ∧ Below W.heap.size W W' := by
  obtain ⟨s0, s1, r, items, wss, rfl, h0, h1, hr1, hr2⟩ := arg_deal a0
  obtain ⟨limit, rfl, hmo1, hmo2⟩ := arg_int a1
  obtain ⟨A0, c0, rfl, hm0, -⟩ := h0.open_
  obtain ⟨A1, c1, rfl, hm1, -⟩ := h1.open_
  have HD := Lib.hid (DB.start (r := r) h0 h1)
  obtain ⟨d0, d1, d2⟩ := HD.out.cells
  clear h0 h1 a0 a1
  by_cases hl : lightC items.length wss = true
  case neg =>
    have Hl := Lib.hid (show lightC items.length wss = false by simpa using hl)
    clear hl
    go_enter Try.func7, Try.ntmps7
    go_wp2_with (first
      | (go_at_call 8; with_reducible refine (light27_any _ _ _ _ _ wss _ HD.out.rW).mono ?_; rintro e w1 ⟨rfl, hb⟩; rw [Hl.out]; have HD1 := Lib.hid (HD.out.up hb); obtain ⟨e0, e1, e2⟩ := HD1.out.cells; clear hb)
      | (go_at_call 9; with_reducible refine (lives_any _).mono ?_; rintro e w2 ⟨rfl, hb⟩; have HB2 := Lib.hid (HD1.out.up hb).bel; clear hb))
    go_ret
    exact ⟨rfl, HB2.out⟩
  have Hl := Lib.hid hl
  have hll := all_le hl
  clear hl
  by_cases h6 : 6 < items.length
  · go_enter Try.func7, Try.ntmps7
    go_wp2_with (first
      | (go_at_call 8; with_reducible refine (light27_any _ _ _ _ _ wss _ HD.out.rW).mono ?_; rintro e w1 ⟨rfl, hb⟩; rw [Hl.out]; have HD1 := Lib.hid (HD.out.up hb); obtain ⟨e0, e1, e2⟩ := HD1.out.cells; clear hb)
      | (go_at_call 9; with_reducible refine (lives_any _).mono ?_; rintro e w2 ⟨rfl, hb⟩; have HB2 := Lib.hid (HD1.out.up hb).bel; clear hb))
    go_ret
    exact ⟨rfl, HB2.out⟩
  by_cases h7 : 7 < (allW wss).length
  · go_enter Try.func7, Try.ntmps7
    go_wp2_with (first
      | (go_at_call 8; with_reducible refine (light27_any _ _ _ _ _ wss _ HD.out.rW).mono ?_; rintro e w1 ⟨rfl, hb⟩; rw [Hl.out]; have HD1 := Lib.hid (HD.out.up hb); obtain ⟨e0, e1, e2⟩ := HD1.out.cells; clear hb)
      | (go_at_call 14; with_reducible refine (refAll_any' _ _ _ _ _ wss _ HD1.out.rW Hl.out).mono ?_; rintro e w2 ⟨A2, c2, rfl, ho, hb⟩; have HD2 := Lib.hid (HD1.out.up hb); obtain ⟨f0, f1, f2⟩ := HD2.out.cells; clear hb ho)
      | (go_at_call 9; with_reducible refine (lives_any _).mono ?_; rintro e w3 ⟨rfl, hb⟩; have HB3 := Lib.hid (HD2.out.up hb).bel; clear hb))
    go_ret
    exact ⟨rfl, HB3.out⟩
  obtain ⟨ms, hms⟩ : ∃ ms : Int, ms = max (-1) (min limit 5) := ⟨_, rfl⟩
  have hms1 : -1 ≤ ms := by omega
  have hms2 : ms ≤ 5 := by omega
  have Hms := Lib.hid hms
  clear hms
  go_enter Try.func7, Try.ntmps7
  go_upto_region 4 with (first
    | (go_at_call 8; with_reducible refine (light27_any _ _ _ _ _ wss _ HD.out.rW).mono ?_; rintro e w1 ⟨rfl, hb⟩; rw [Hl.out]; have HD1 := Lib.hid (HD.out.up hb); obtain ⟨e0, e1, e2⟩ := HD1.out.cells; clear hb)
    | (go_at_call 14; with_reducible refine (refAll_any' _ _ _ _ _ wss _ HD1.out.rW Hl.out).mono ?_; rintro e w2 ⟨A2, c2, rfl, ho, hb⟩; have HD2 := Lib.hid (HD1.out.up hb); obtain ⟨f0, f1, f2⟩ := HD2.out.cells; clear hb ho))
  rw [show (if (-1 : Int) < (if (5 : Int) < limit then 5 else limit) then (if (5 : Int) < limit then 5 else limit) else -1) = ms by have := Hms.out; split <;> split <;> omega]
  generalize (if (5 : Int) < limit then (5 : Int) else limit) = mn
  have HH := Lib.hid (hits_any (.slice A0 items.length c0) (.slice A1 wss.length c1) r ms items wss w2 HD2.out.rI HD2.out.rW Hl.out hms2)
  clear d0 d1 d2 e0 e1 e2
  by_cases hm : mayN items.length r wss = 0
  case neg =>
    have Hm := Lib.hid hm
    have hmk : ((mayN items.length r wss : Nat) : Int) = 1 := by rw [light_may27 Hl.out hm]; rfl
    clear hm
    go_wp2_with (first
      | (go_at_call 20; with_reducible refine HH.out.mono ?_; intro e w3 hq; go_loud (unfold HitsPost at hq; obtain ⟨⟨-, A3, c3, rfl⟩ | ⟨h, -⟩ | ⟨h, -⟩, hb⟩ := hq; rotate_left; exact absurd h Hm.out; exact absurd h Hm.out; have HD3 := Lib.hid (HD2.out.up hb); obtain ⟨g0, g1, g2⟩ := HD3.out.cells; clear hb))
      | (go_at_call 16; with_reducible refine (refMay_any _ _ _ _ _ wss _ HD3.out.rW).mono ?_; rintro e w4 ⟨rfl, hb⟩; rw [hmk]; have HD4 := Lib.hid (HD3.out.up hb); clear hb)
      | (go_at_call 9; with_reducible refine (lives_any _).mono ?_; rintro e w5 ⟨rfl, hb⟩; have HB5 := Lib.hid (HD4.out.up hb).bel; clear hb))
    go_ret
    exact ⟨rfl, HB5.out⟩
  have Hm := Lib.hid hm
  have Hm0 := Lib.hid (show ((mayN items.length r wss : Nat) : Int) = 0 by rw [hm]; rfl)
  clear hm
  rcases Int.lt_or_le ms 0 with hneg | hpos
  · go_wp2_with (first
      | (go_at_call 20; with_reducible refine HH.out.mono ?_; intro e w3 hq; go_loud (unfold HitsPost at hq; obtain ⟨⟨-, A3, c3, rfl⟩ | ⟨-, h, -⟩ | ⟨-, h, -⟩, hb⟩ := hq; rotate_left; omega; omega; have HD3 := Lib.hid (HD2.out.up hb); obtain ⟨g0, g1, g2⟩ := HD3.out.cells; clear hb))
      | (go_at_call 16; with_reducible refine (refMay_any _ _ _ _ _ wss _ HD3.out.rW).mono ?_; rintro e w4 ⟨rfl, hb⟩; rw [Hm0.out]; have HD4 := Lib.hid (HD3.out.up hb); clear hb)
      | (go_at_call 9; with_reducible refine (lives_any _).mono ?_; rintro e w5 ⟨rfl, hb⟩; have HB5 := Lib.hid (HD4.out.up hb).bel; clear hb))
    go_ret
    exact ⟨rfl, HB5.out⟩
  obtain ⟨lim, rfl⟩ := Int.eq_ofNat_of_zero_le hpos
  cases hbl : blamedB items wss r with
  | false =>
    have Hbl := Lib.hid hbl
    have HHf := Lib.hid (HH.out.mono (R' := fun e w3 => ∃ A3 c3, e = .returned (.tuple #[.slice A3 0 c3, .int .i64 1, .int .i64 0]) ∧ Below w2.heap.size w2 w3) (by
      intro e w3 hq
      unfold HitsPost at hq
      obtain ⟨⟨h, -⟩ | ⟨-, -, -, A3, c3, rfl⟩ | ⟨-, -, h, -⟩, hb⟩ := hq
      · rcases h with h | h
        · exact absurd Hm.out h
        · omega
      · exact ⟨A3, c3, rfl, hb⟩
      · rw [hbl] at h; cases h))
    clear hbl
    go_wp2_with (first
      | (go_at_call 20; with_reducible refine HHf.out.mono ?_; rintro e w3 ⟨A3, c3, rfl, hb⟩; have HD3 := Lib.hid (HD2.out.up hb); obtain ⟨g0, g1, g2⟩ := HD3.out.cells; clear hb)
      | (go_at_call 16; with_reducible refine (refMay_any _ _ _ _ _ wss _ HD3.out.rW).mono ?_; rintro e w4 ⟨rfl, hb⟩; rw [Hm0.out]; have HD4 := Lib.hid (HD3.out.up hb); obtain ⟨k0, k1, k2⟩ := HD4.out.cells; clear hb)
      | (go_at_call 17; with_reducible refine (blamed_any _ _ r items wss _ HD4.out.rI HD4.out.rW (by have := (rows_of_light Hl.out).2.2.1; omega)).mono ?_; rintro e w5 ⟨rfl, hb⟩; rw [Hbl.out]; have HD5 := Lib.hid (HD4.out.up hb); clear hb)
      | (go_at_call 9; with_reducible refine (lives_any _).mono ?_; rintro e w6 ⟨rfl, hb⟩; have HB6 := Lib.hid (HD5.out.up hb).bel; clear hb))
    go_ret
    exact ⟨rfl, HB6.out⟩
  | true =>
    have Hbl := Lib.hid hbl
    clear hbl
    obtain ⟨B, hB⟩ : ∃ B : List WantD → Bool, B = fun m => blamedB items (onlyW m wss) r := ⟨_, rfl⟩
    have HBe := Lib.hid (fun m => (show B m = blamedB items (onlyW m wss) r by rw [hB]))
    have HBf := Lib.hid (show (fun m => blamedB items (onlyW m wss) r) = B from hB.symm)
    obtain ⟨rows, hrows⟩ : ∃ rows, rows = hitsR B lim (allW wss) := ⟨_, rfl⟩
    have HRows := Lib.hid (show hitsR (fun m => blamedB items (onlyW m wss) r) ((lim : Int)).toNat (allW wss) = rows by rw [Int.toNat_natCast, hrows, hB])
    have Hrows := Lib.hid hrows
    have hrl : rows.length ≤ 5 := by have := hitsR_len B lim (allW wss); rw [hrows]; omega
    clear hB hrows
    go_wp2_with (first
      | (go_at_call 20; with_reducible refine HH.out.mono ?_; intro e w3 hq; go_loud (unfold HitsPost at hq; rw [HRows.out] at hq; obtain ⟨⟨h, -⟩ | ⟨-, -, h, -⟩ | ⟨-, -, -, A3, n3, c3, hn3, rfl, hr3⟩, hb⟩ := hq; (rcases h with h | h; exact absurd Hm.out h; omega); (rw [Hbl.out] at h; cases h); subst hn3; have HR3 := Lib.hid hr3; have HD3 := Lib.hid (HD2.out.up hb); obtain ⟨g0, g1, g2⟩ := HD3.out.cells; clear hb hr3))
      | (go_at_call 16; with_reducible refine (refMay_any _ _ _ _ _ wss _ HD3.out.rW).mono ?_; rintro e w4 ⟨rfl, hb⟩; rw [Hm0.out]; have HR4 := Lib.hid ((RSl.stable RWants.stable).up HR3.out hb); have HD4 := Lib.hid (HD3.out.up hb); obtain ⟨k0, k1, k2⟩ := HD4.out.cells; clear hb)
      | (go_at_call 17; with_reducible refine (blamed_any _ _ r items wss _ HD4.out.rI HD4.out.rW (by have := (rows_of_light Hl.out).2.2.1; omega)).mono ?_; rintro e w5 ⟨rfl, hb⟩; rw [Hbl.out]; have HR5 := Lib.hid ((RSl.stable RWants.stable).up HR4.out hb); have HD5 := Lib.hid (HD4.out.up hb); obtain ⟨m0, m1, m2⟩ := HD5.out.cells; clear hb)
      | (go_at_call 14; with_reducible refine (refAll_any' _ _ _ _ _ wss _ HD5.out.rW Hl.out).mono ?_; rintro e w6 ⟨A6, c6, rfl, ho, hb⟩; have HO6 := Lib.hid ho; have HR6 := Lib.hid ((RSl.stable RWants.stable).up HR5.out hb); have HD6 := Lib.hid (HD5.out.up hb); clear hb ho))
    clear f0 f1 f2 g0 g1 g2 k0 k1 k2 m0 m1 m2
    go_loopw [9, 8] (fun nv lv wr => ∃ (k : Nat) (left : List WantD) (Bx : Nat), k ≤ rows.length ∧ nv = .int .i64 k ∧ Hid (OwnW wr Bx lv left) ∧ Hid (left.length ≤ 7000) ∧ Hid (hitsR B (lim - k) left = rows.drop k) ∧ Hid (k ≤ lim) ∧ Hid (Below w6.heap.size w6 wr)) (fun nv _ _ => lim - (intOf nv).toNat)
    case atStart => exact ⟨0, allW wss, _, Nat.zero_le _, rfl, HO6, Lib.hid hll, Lib.hid (by rw [List.drop_zero]; exact Hrows.out.symm), Lib.hid (Nat.zero_le _), Lib.hid (Below.refl _ _)⟩
    case round =>
      obtain ⟨wk, hwk⟩ : ∃ w0 : World, w0 = wr := ⟨_, rfl⟩
      rw [← hwk] at hrel ⊢
      clear hwk
      obtain ⟨k, left, Bx, hkr, rfl, HF, HFl, HHk, HKl, HBk⟩ := hrel
      obtain ⟨AF, cF, hvF⟩ := HF.out.shape
      subst hvF
      have HDk := Lib.hid (HD6.out.up HBk.out)
      have HRk := Lib.hid ((RSl.stable RWants.stable).up HR6.out HBk.out)
      obtain ⟨d0, d1, d2⟩ := HDk.out.cells
      have hkl := HKl.out
      rcases Nat.lt_or_ge k lim with hlt | hge
      · cases hbt : B left with
        | false =>
          have Hbt := Lib.hid hbt
          obtain rfl : k = rows.length := by
            have := HHk.out
            rw [hitsR_no (.inr hbt)] at this
            have := congrArg List.length this
            simp at this; omega
          clear hbt
          go_wp2_with (first
      | (go_at_call 11; with_reducible refine (refOnly_any _ _ _ r items wss left _ HDk.out.rI HDk.out.rW (RWants.stable.sub HF.out.reads fun b hb => hb.2) (rows_of_light Hl.out).2.1 (rows_of_light Hl.out).1).mono ?_; intro e wa hq; go_loud (unfold OnlyPost at hq; obtain ⟨vI, vW, rfl, hIa, hWa, ba⟩ := hq; have HIa := Lib.hid hIa; have HWa := Lib.hid hWa; have HBa := Lib.hid ba; clear hIa hWa ba))
      | (go_at_call 17; with_reducible refine (blamed_any _ _ r items (onlyW left wss) _ HIa.out HWa.out (by have := (rows_of_light Hl.out).2.2.1; omega)).mono ?_; rintro e wb ⟨rfl, hb⟩; go_loud (rw [← HBe.out, Hbt.out]; have HBb := Lib.hid (HBa.out.trans (hb.mono HBa.out.size)); have HDb := Lib.hid (HDk.out.up HBb.out);  clear hb))
      | (go_at_call 9; with_reducible refine (lives_any _).mono ?_; rintro e wz ⟨rfl, hb⟩; have HBz := Lib.hid (HDb.out.up hb).bel; clear hb))
          go_ret
          exact ⟨rfl, HBz.out⟩
        | true =>
          have Hbt := Lib.hid hbt
          obtain ⟨rw_, hrw⟩ : ∃ rw_, rw_ = leastL B left left := ⟨_, rfl⟩
          have Hrw := Lib.hid hrw.symm
          clear hbt
          cases rw_ with
          | nil =>
            have hdr := HHk.out
            rw [hitsR_end (by omega) Hbt.out Hrw.out] at hdr
            have hkn : k + 1 = rows.length := by
              have := congrArg List.length hdr
              simp at this; omega
            have Hke := Lib.hid (show rows[k]? = some [] by rw [← List.head?_drop, ← hdr]; rfl)
            have hklt : k < rows.length := by omega
            clear hdr hrw
            go_wp2_with (first
      | (go_at_call 11; with_reducible refine (refOnly_any _ _ _ r items wss left _ HDk.out.rI HDk.out.rW (RWants.stable.sub HF.out.reads fun b hb => hb.2) (rows_of_light Hl.out).2.1 (rows_of_light Hl.out).1).mono ?_; intro e wa hq; go_loud (unfold OnlyPost at hq; obtain ⟨vI, vW, rfl, hIa, hWa, ba⟩ := hq; have HIa := Lib.hid hIa; have HWa := Lib.hid hWa; have HBa := Lib.hid ba; clear hIa hWa ba))
      | (go_at_call 17; with_reducible refine (blamed_any _ _ r items (onlyW left wss) _ HIa.out HWa.out (by have := (rows_of_light Hl.out).2.2.1; omega)).mono ?_; rintro e wb ⟨rfl, hb⟩; go_loud (rw [← HBe.out, Hbt.out]; have HBb := Lib.hid (HBa.out.trans (hb.mono HBa.out.size)); have HDb := Lib.hid (HDk.out.up HBb.out); have HFb := Lib.hid (HF.out.up HBb.out); obtain ⟨t0, t1, t2⟩ := HDb.out.cells; clear hb))
      | (go_at_call 18; with_reducible refine (refLeast_any' _ _ r items wss _ _ _ _ left _ HDb.out.rI HDb.out.rW HFb.out Hl.out HFl.out).mono ?_; rintro e wc ⟨Ac, nc, cc, rfl, hrc, hb⟩; go_loud (rw [HBf.out, Hrw.out] at hrc; obtain ⟨A', c', e'⟩ := hrc.shape; simp only [Value.slice.injEq, List.length_nil] at e'; obtain ⟨rfl, rfl, rfl⟩ := e'; have HRc := Lib.hid hrc; have HBcb := Lib.hid hb; have HBc := Lib.hid (HBb.out.trans (hb.mono HBb.out.size)); have HDc := Lib.hid (HDk.out.up HBc.out); obtain ⟨ul, hul, hrul⟩ := hi_at (RSl.stable RWants.stable |>.up HRk.out HBc.out) Hke.out; obtain ⟨Au, cu, rfl⟩ := hrul.shape; simp only [List.length_nil] at hrul; obtain ⟨bu, ou, hA3, hcu⟩ := hul; subst hA3; have HRu := Lib.hid hrul; clear hb hrul hrc))
      | (go_at_call 12; go_loud (with_reducible refine (same_any _ _ _ _ _ HRu.out HRc.out).mono ?_); rintro e wd ⟨rfl, hb⟩; go_loud (rw [beq_self_eq_true]; have HBd := Lib.hid (HBc.out.trans (hb.mono HBc.out.size)); have HDd := Lib.hid (HDk.out.up HBd.out);  clear hb))
      | (go_at_call 9; with_reducible refine (lives_any _).mono ?_; rintro e wz ⟨rfl, hb⟩; have HBz := Lib.hid (HDd.out.up hb).bel; clear hb))
            go_ret
            exact ⟨rfl, HBz.out⟩
          | cons x xs =>
            have hdr := HHk.out
            rw [hitsR_cons (by omega) Hbt.out Hrw.out] at hdr
            have hklt : k < rows.length := by
              have := congrArg List.length hdr
              simp at this; omega
            have Hke := Lib.hid (show rows[k]? = some (x :: xs) by rw [← List.head?_drop, ← hdr]; rfl)
            have Hnx := Lib.hid (show hitsR B (lim - (k + 1)) (withoutW left x) = rows.drop (k + 1) by
              have := congrArg List.tail hdr
              rw [List.tail_cons, List.tail_drop] at this
              rw [show lim - (k + 1) = lim - k - 1 by omega]; exact this)
            obtain ⟨xa, xb⟩ := x
            clear hdr hrw
            go_wp2_with (first
      | (go_at_call 11; with_reducible refine (refOnly_any _ _ _ r items wss left _ HDk.out.rI HDk.out.rW (RWants.stable.sub HF.out.reads fun b hb => hb.2) (rows_of_light Hl.out).2.1 (rows_of_light Hl.out).1).mono ?_; intro e wa hq; go_loud (unfold OnlyPost at hq; obtain ⟨vI, vW, rfl, hIa, hWa, ba⟩ := hq; have HIa := Lib.hid hIa; have HWa := Lib.hid hWa; have HBa := Lib.hid ba; clear hIa hWa ba))
      | (go_at_call 17; with_reducible refine (blamed_any _ _ r items (onlyW left wss) _ HIa.out HWa.out (by have := (rows_of_light Hl.out).2.2.1; omega)).mono ?_; rintro e wb ⟨rfl, hb⟩; go_loud (rw [← HBe.out, Hbt.out]; have HBb := Lib.hid (HBa.out.trans (hb.mono HBa.out.size)); have HDb := Lib.hid (HDk.out.up HBb.out); have HFb := Lib.hid (HF.out.up HBb.out); obtain ⟨t0, t1, t2⟩ := HDb.out.cells; clear hb))
      | (go_at_call 18; with_reducible refine (refLeast_any' _ _ r items wss _ _ _ _ left _ HDb.out.rI HDb.out.rW HFb.out Hl.out HFl.out).mono ?_; rintro e wc ⟨Ac, nc, cc, rfl, hrc, hb⟩; go_loud (rw [HBf.out, Hrw.out] at hrc; obtain ⟨A', c', e'⟩ := hrc.shape; simp only [Value.slice.injEq, List.length_cons] at e'; obtain ⟨rfl, rfl, rfl⟩ := e'; have HRc := Lib.hid hrc; have HBcb := Lib.hid hb; have HBc := Lib.hid (HBb.out.trans (hb.mono HBb.out.size)); have HDc := Lib.hid (HDk.out.up HBc.out); obtain ⟨ul, hul, hrul⟩ := hi_at (RSl.stable RWants.stable |>.up HRk.out HBc.out) Hke.out; obtain ⟨Au, cu, rfl⟩ := hrul.shape; simp only [List.length_cons] at hrul; obtain ⟨bu, ou, hA3, hcu⟩ := hul; subst hA3; have HRu := Lib.hid hrul; clear hb hrul hrc))
      | (go_at_call 12; go_loud (with_reducible refine (same_any _ _ _ _ _ HRu.out HRc.out).mono ?_); rintro e wd ⟨rfl, hb⟩; go_loud (rw [beq_self_eq_true]; have HBd := Lib.hid (HBc.out.trans (hb.mono HBc.out.size)); have HDd := Lib.hid (HDk.out.up HBd.out); obtain ⟨by_, oy, hAy, hy1, hy2⟩ := RWants.first HRc.out hb; subst hAy; have HFd := Lib.hid (HFb.out.up (HBcb.out.trans (hb.mono HBcb.out.size))); clear HFb; clear hb))
      | (go_at_call 19; go_loud (with_reducible refine (refWithout_any _ left (xa, xb) wd (RWants.stable.sub HFd.out.reads fun b hb => hb.2) (by have := HFl.out; omega)).mono ?_); rintro e we ⟨lv9, rfl, ho, hb⟩; go_loud (have HBw := Lib.hid (HBd.out.trans (hb.mono HBd.out.size)); have HO9 := Lib.hid ho; clear hb ho)))
            obtain ⟨A9, c9, rfl⟩ := HO9.out.shape
            go_roundw
            case measure => simp only [intOf]; omega
            all_goals exact ⟨k + 1, withoutW left (xa, xb), wd.heap.size, hklt, by simp, HO9, Lib.hid (by have := HFl.out; have h9 : (withoutW left (xa, xb)).length ≤ left.length := (by unfold withoutW; exact List.length_filter_le _ _); omega), Hnx, Lib.hid (by omega), Lib.hid (HBk.out.trans (HBw.out.mono HBk.out.size))⟩
      · obtain rfl : k = rows.length := by
          have := HHk.out
          rw [hitsR_no (.inl (by omega))] at this
          have := congrArg List.length this
          simp at this; omega
        go_wp2_with (first
      | (go_at_call 9; with_reducible refine (lives_any _).mono ?_; rintro e wz ⟨rfl, hb⟩; have HBz := Lib.hid (HDk.out.up hb).bel; clear hb))
        go_ret
        exact ⟨rfl, HBz.out⟩
end Go.Proofs.Ytcebafeaikipmaa
