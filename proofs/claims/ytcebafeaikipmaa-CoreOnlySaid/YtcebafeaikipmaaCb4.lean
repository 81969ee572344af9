/- core.isBlamed: what it computes, or how it stops. / core.least: what it computes, or how it stops. -/
import Derived.Test.YtcebafeaikipmaaCb3
import Derived.Test.YtcebafeaikipmaaZk
import Derived.Test.YtcebafeaikipmaaZr
namespace Go.Proofs.Ytcebafeaikipmaa
open Go.RowKit
open S15 (solve_law forget_any AnsAll)

def ibEnd : Except (Int × Int) Bool → Ending
  | .ok b => .returned (.bool b)
  | .error p => .panicked (flt p.1 p.2)
set_option maxRecDepth 100000 in
set_option maxHeartbeats 4000000 in
theorem isBlamed_any (s0 s1 : Value) (r : Int) (items : List ItemD) (wss : List (List (List Int))) (most : Int) (w : World) (o : Except (Int × Int) Bool) (h0 : RItems w (Lt w.heap.size) s0 items) (hw : RIntsss w (Lt w.heap.size) s1 wss)
    (hl : lightC items.length wss = true) (hmost : most ≤ 200 ∨ 512 ≤ most) (hm2 : most ≤ 2000000) (ho : IbR items wss r most o) :
    Calls Try.prog 28 #[.agg #[s0, s1, .int .i64 r], .int .i64 most] w fun e w' => e = ibEnd o ∧ Below w.heap.size w w' := by
  obtain ⟨A0, c0, rfl, hm0, -⟩ := h0.open_
  obtain ⟨A1, c1, rfl, hm1, -⟩ := hw.open_
  have H0 := Lib.hid h0
  have HW := Lib.hid hw
  have HL := Lib.hid hl
  have HO := Lib.hid ho
  have Hb0 := Lib.hid (below_alloc w (.cells #[.slice A0 items.length c0, .slice A1 wss.length c1, .int .i64 r] 25))
  have HE := Lib.hid (Encode_any (.slice A0 items.length c0) (.slice A1 wss.length c1) r items wss _ (RItems.stable.up h0 Hb0.out) (RIntsss.stable.up hw Hb0.out) (lightC_lightW hl))
  by_cases hmay : mayN items.length r wss = 0
  case neg =>
    have henc : encR items wss r = (0, [], errOf (mayN items.length r wss)) := by unfold encR; rw [if_pos hmay]
    have hoe : o = .error (0, errOf (mayN items.length r wss)) := by
      cases o with
      | ok b => exact absurd ho.1 hmay
      | error p =>
        obtain ⟨x, y⟩ := p
        rcases ho with ⟨_, rfl, rfl⟩ | ⟨h, _⟩ | ⟨h, _⟩
        · rfl
        · exact absurd h hmay
        · exact absurd h hmay
    subst hoe
    obtain ⟨er, her⟩ : ∃ er, er = errOf (mayN items.length r wss) := ⟨_, rfl⟩
    have Her := Lib.hid her
    have hne : (er != 0) = true := by
      rw [her]; unfold errOf
      rcases mayN_cases items.length r wss with h | h | h
      · exact absurd h hmay
      · rw [h]; rfl
      · rw [h]; rfl
    rw [← her] at henc ⊢
    have Henc := Lib.hid henc
    clear h0 hw hl hmost ho henc her hmay
    go_enter Try.func28, Try.ntmps28
    go_wp2_with (go_at_call 31; with_reducible refine HE.out.mono ?_; rintro e w1 hq; go_loud (unfold EncodePost at hq; rw [Henc.out] at hq; obtain ⟨s, rfl, hs, b1⟩ := hq; obtain ⟨As, cs, rfl⟩ := hs.shape; have HB1 := Lib.hid (Hb0.out.trans (b1.mono Hb0.out.size)); clear hs b1))
    exact ⟨rfl, rfl, HB1.out.alloc HB1.out.size _⟩
  case pos =>
    have hcl := cls_light hmay hl
    have hlen := (lits_all hcl).1
    have henc : encR items wss r = ((items.length : Int), allCls items wss r, 0) := by unfold encR; rw [if_neg (by simp [hmay]), if_neg (by omega)]
    have Henc := Lib.hid henc
    have Hcl := Lib.hid hcl
    have Hmay := Lib.hid hmay
    have hn7 := (lightC_W hl).1
    clear h0 hw hl henc hcl hlen hmay
    go_enter Try.func28, Try.ntmps28
    go_wp2_with (first
      | (go_at_call 31; with_reducible refine HE.out.mono ?_; rintro e w1 hq; go_loud (unfold EncodePost at hq; rw [Henc.out] at hq; obtain ⟨s, rfl, hs, b1⟩ := hq; obtain ⟨As, cs, rfl⟩ := hs.shape; have HB1 := Lib.hid (Hb0.out.trans (b1.mono Hb0.out.size)); have Hs := Lib.hid hs; clear hs b1))
      | (fail))
    obtain ⟨w2, hw2⟩ : ∃ w2, w2 = w1.alloc (.cells #[.int .i64 (items.length : Int), .slice As (allCls items wss r).length cs] 61) := ⟨_, rfl⟩
    have HB2 := Lib.hid (show Below w.heap.size w w2 by rw [hw2]; exact HB1.out.alloc HB1.out.size _)
    have Hs2 := Lib.hid (RIntss.stable.up Hs.out (below_alloc w1 (.cells #[.int .i64 (items.length : Int), .slice As (allCls items wss r).length cs] 61)))
    rw [← hw2] at Hs2
    rw [← hw2]
    clear hw2
    rcases Int.lt_or_le most 0 with hneg | hpos
    · have hoe : o = .error (0, 1) := by
        cases o with
        | ok b => exact absurd ho.2.1 (by omega)
        | error p =>
          obtain ⟨x, y⟩ := p
          rcases ho with ⟨h, _⟩ | ⟨_, _, rfl, rfl⟩ | ⟨_, h, _⟩
          · exact absurd Hmay.out h
          · rfl
          · omega
      subst hoe
      clear ho
      refine (S15.solve_neg (n := (items.length : Int)) Hs2.out Hcl.out hneg).mono ?_
      rintro e w3 ⟨rfl, b3⟩
      unfold S15.noneV
      go_wp2
      exact ⟨rfl, rfl, (HB2.out.trans (b3.mono HB2.out.size)).alloc (by have := HB2.out.size; have := b3.size; omega) _⟩
    · obtain ⟨mst, rfl⟩ := Int.eq_ofNat_of_zero_le hpos
      refine (solve_law (n := items.length) (most := mst) Hs2.out Hcl.out (by omega) (fun _ => forget_any)).mono ?_
      rintro e w3 ⟨a, ev, kv, A1', A2', n1, c1', n2, c2', rfl, ha, b3⟩
      have htold := told_opn (most := mst) Hmay.out HL.out (by omega) ha.sr
      have hmt : ((mst : Int)).toNat = mst := Int.toNat_natCast mst
      have HB3 := Lib.hid (HB2.out.trans (b3.mono HB2.out.size))
      clear b3
      cases a with
      | opn k =>
        have h1 := ha.rd
        injection h1 with e
        simp only [Array.mk.injEq, List.cons.injEq, Value.int.injEq, Value.slice.injEq, true_and, and_true] at e
        obtain ⟨rfl, ⟨rfl, rfl, rfl⟩, ⟨rfl, rfl, rfl⟩, rfl⟩ := e
        have hoe : o = .error (3, 0) := by
          cases o with
          | ok b => exact absurd (htold.2 ⟨k, rfl⟩) (by have := ho.2.2.1; rwa [hmt] at this)
          | error p =>
            obtain ⟨x, y⟩ := p
            rcases ho with ⟨h, _⟩ | ⟨_, h, _⟩ | ⟨_, _, _, rfl, rfl⟩
            · exact absurd Hmay.out h
            · omega
            · rfl
        subst hoe
        clear ho ha htold hmost hmt
        go_wp2
        exact ⟨rfl, rfl, HB3.out.alloc HB3.out.size _⟩
      | sat tr k =>
        obtain ⟨tv, h1, -⟩ := ha.rd
        injection h1 with e
        simp only [Array.mk.injEq, List.cons.injEq, Value.int.injEq, Value.slice.injEq, true_and, and_true] at e
        obtain ⟨rfl, rfl, ⟨rfl, rfl, rfl⟩, rfl⟩ := e
        have hoe : o = .ok false := by
          cases o with
          | ok b => rw [ho.2.2.2, told Hmay.out HL.out ha.ok ha.pb (fun u h => by cases h)]; rfl
          | error p =>
            obtain ⟨x, y⟩ := p
            rcases ho with ⟨h, _⟩ | ⟨_, h, _⟩ | ⟨_, _, h, _⟩
            · exact absurd Hmay.out h
            · omega
            · rw [hmt] at h; obtain ⟨u, hu⟩ := htold.1 h; cases hu
        subst hoe
        clear ho ha htold hmost hmt
        go_wp2
        go_ret
        exact ⟨rfl, HB3.out.alloc HB3.out.size _⟩
      | unsat p k =>
        obtain ⟨pv, h1, -⟩ := ha.rd
        injection h1 with e
        simp only [Array.mk.injEq, List.cons.injEq, Value.int.injEq, Value.slice.injEq, true_and, and_true] at e
        obtain ⟨rfl, ⟨rfl, rfl, rfl⟩, rfl, rfl⟩ := e
        have hoe : o = .ok true := by
          cases o with
          | ok b => rw [ho.2.2.2, told Hmay.out HL.out ha.ok ha.pb (fun u h => by cases h)]; rfl
          | error p =>
            obtain ⟨x, y⟩ := p
            rcases ho with ⟨h, _⟩ | ⟨_, h, _⟩ | ⟨_, _, h, _⟩
            · exact absurd Hmay.out h
            · omega
            · rw [hmt] at h; obtain ⟨u, hu⟩ := htold.1 h; cases hu
        subst hoe
        clear ho ha htold hmost hmt
        go_wp2
        go_ret
        exact ⟨rfl, HB3.out.alloc HB3.out.size _⟩
end Go.Proofs.Ytcebafeaikipmaa

namespace Go.Proofs.Ytcebafeaikipmaa
open Go.RowKit

def leastO (B : List WantD → Except (Int × Int) Bool) : List WantD → List WantD → Except (Int × Int) (List WantD)
  | [], l => .ok l
  | x :: xs, l => match B (withoutW l x) with
    | .error p => .error p
    | .ok b => leastO B xs (if b then withoutW l x else l)
theorem leastO_ok {B : List WantD → Except (Int × Int) Bool} {C : List WantD → Bool} (h : ∀ l, B l = .ok (C l)) : ∀ xs l, leastO B xs l = .ok (leastL C xs l)
  | [], l => rfl
  | x :: xs, l => by rw [leastO, h, leastL]; exact leastO_ok h xs _
theorem leastO_step {B : List WantD → Except (Int × Int) Bool} {l m : List WantD} {k : Nat} (hk : k < l.length) : leastO B (l.drop k) m = match B (withoutW m l[k]) with
    | .error p => .error p
    | .ok b => leastO B (l.drop (k + 1)) (if b then withoutW m l[k] else m) := by
  rw [List.drop_eq_getElem_cons hk, leastO]
theorem want_up {w w' : World} {S : Nat → Prop} {v : Value} {l : List WantD} (h : RWants w (fun b => S b ∧ b < w.heap.size) v l) (hb : Below w.heap.size w w') : RWants w' (fun b => S b ∧ b < w'.heap.size) v l :=
  RWants.stable _ _ _ _ _ _ h (fun b hb' => hb.block b hb'.2) fun b hb' => ⟨hb'.1, Nat.lt_of_lt_of_le hb'.2 hb.size⟩
def LeastEnd (S : Nat → Prop) (w' : World) (e : Ending) : Except (Int × Int) (List WantD) → Prop
  | .ok m => ∃ v, e = .returned v ∧ RWants w' (fun b => S b ∧ b < w'.heap.size) v m
  | .error p => e = .panicked (flt p.1 p.2)
set_option maxRecDepth 100000 in
set_option maxHeartbeats 4000000 in
theorem least_any (s0 s1 sl : Value) (r : Int) (items : List ItemD) (wss : List (List (List Int))) (l : List WantD) (most : Int) (w : World) (B : List WantD → Except (Int × Int) Bool) (S : Nat → Prop) (hS : ∀ b, w.heap.size ≤ b → S b) (h0 : RItems w (Lt w.heap.size) s0 items) (hw : RIntsss w (Lt w.heap.size) s1 wss)
    (hsl : RWants w (fun b => S b ∧ b < w.heap.size) sl l) (hl : lightC items.length wss = true) (hll : l.length ≤ 1000000) (hmost : most ≤ 200 ∨ 512 ≤ most) (hm2 : most ≤ 2000000) (hB : ∀ m, IbR items (onlyW m wss) r most (B m)) :
    Calls Try.prog 29 #[.agg #[s0, s1, .int .i64 r], sl, .int .i64 most] w fun e w' => LeastEnd S w' e (leastO B l l) ∧ Below w.heap.size w w' := by
  obtain ⟨A0, c0, rfl, hm0, -⟩ := h0.open_
  obtain ⟨A1, c1, rfl, hm1, -⟩ := hw.open_
  obtain ⟨AL, cL, rfl, hmL, -⟩ := hsl.open_
  have HS := Lib.hid hS
  clear hS
  have H0 := Lib.hid h0
  have HW := Lib.hid hw
  have HSL := Lib.hid hsl
  have HL := Lib.hid hl
  have HB := Lib.hid hB
  have Hmo := Lib.hid hmost
  have Hm2 := Lib.hid hm2
  have Hr7 := Lib.hid (lightC_W hl)
  obtain ⟨w1, hw1⟩ : ∃ w1, w1 = w.alloc (.cells #[.slice A0 items.length c0, .slice A1 wss.length c1, .int .i64 r] 25) := ⟨_, rfl⟩
  have Hb0 := Lib.hid (show Below w.heap.size w w1 by rw [hw1]; exact below_alloc _ _)
  have hs1 : w1.heap.size = w.heap.size + 1 := by rw [hw1]; simp
  have Hs1 := Lib.hid hs1
  have Hr1 := Lib.hid (show w1.heap[w.heap.size]? = some (.cells #[.slice A0 items.length c0, .slice A1 wss.length c1, .int .i64 r] 25 (0, 0)) by rw [hw1]; exact heap_alloc_new _ _)
  have Hw1 := Lib.hid hw1
  have HCl := Lib.hid (CloneWants_any (.slice AL l.length cL) l w1 (RWants.stable.up (RWants.stable.sub hsl fun b hb => hb.2) Hb0.out) hll)
  clear h0 hw hsl hl hB hmost hm2 hw1 hs1
  go_enter Try.func29, Try.ntmps29
  go_wp2_with fail
  rw [← Hw1.out]
  refine HCl.out.mono ?_
  rintro e w2 ⟨v2, rfl, ho2, b2⟩
  obtain ⟨A2, c2, rfl⟩ := own_shape ho2
  have Hcl := Lib.hid (rarr_of_own (S := fun b => w1.heap.size ≤ b ∧ b < w2.heap.size) wantCells_len ho2 fun g hg => ho2.lt g hg)
  have HB2 := Lib.hid b2
  clear ho2 b2 HCl
  go_wp2
  go_loopw [13, 1] (fun sv lv wr => ∃ (k : Nat) (m : List WantD), k ≤ l.length ∧ sv = .int .i64 k ∧ Hid (RWants wr (fun b => S b ∧ b < wr.heap.size) lv m) ∧ Hid (leastO B l l = leastO B (l.drop k) m) ∧ Hid (m.length ≤ l.length) ∧ Hid (Below w2.heap.size w2 wr)) (fun sv _ _ => l.length - (intOf sv).toNat)
  case atStart => exact ⟨0, l, Nat.zero_le _, rfl, Lib.hid (want_up HSL.out (Hb0.out.trans (HB2.out.mono Hb0.out.size))), Lib.hid rfl, Lib.hid (Nat.le_refl _), Lib.hid (Below.refl _ _)⟩
  case round =>
    obtain ⟨wk, hwk⟩ : ∃ w0 : World, w0 = wr := ⟨_, rfl⟩
    rw [← hwk] at hrel ⊢
    clear hwk
    obtain ⟨k, m, hk, rfl, HM, HE, HML, HBk⟩ := hrel
    have Hbw := Lib.hid (show Below w1.heap.size w1 wk from HB2.out.trans (HBk.out.mono HB2.out.size))
    have Hbww := Lib.hid (show Below w.heap.size w wk from Hb0.out.trans (Hbw.out.mono Hb0.out.size))
    obtain ⟨AM, cM, hvM⟩ := HM.out.shape
    subst hvM
    rcases Nat.lt_or_ge k l.length with hlt | hge
    · obtain ⟨A', c', e', hm', hat⟩ := Hcl.out.open_
      simp only [Value.slice.injEq] at e'
      obtain ⟨rfl, -, rfl⟩ := e'
      obtain ⟨b, off, rfl, hSb, hc⟩ := hat.at_ (VCells.stable _) (w' := wk) (ag_of_below HBk.out |>.sub fun b hb => hb.2) hlt
      have hc1 : wk.cell? ⟨b, off + k * 2, none⟩ = some (.int .i64 l[k].1) := hc 0 _ rfl
      have hc2 : wk.cell? ⟨b, off + k * 2 + 1, none⟩ = some (.int .i64 l[k].2) := hc 1 _ rfl
      have hbk : b < wk.heap.size := Nat.lt_of_lt_of_le hSb.2 HBk.out.size
      have hq := (Hbw.out.block w.heap.size (by rw [Hs1.out]; omega)).trans Hr1.out
      have hq0 : wk.cell? ⟨w.heap.size, 0, none⟩ = some (.slice A0 items.length c0) := cell_of_row _ _ 0 _ _ _ hq
      have hq1 : wk.cell? ⟨w.heap.size, 1, none⟩ = some (.slice A1 wss.length c1) := cell_of_row _ _ 1 _ _ _ hq
      have hq2 : wk.cell? ⟨w.heap.size, 2, none⟩ = some (.int .i64 r) := cell_of_row _ _ 2 _ _ _ hq
      have hwl : w.heap.size < wk.heap.size := by have := Hbw.out.size; rw [Hs1.out] at this; omega
      have Hst := Lib.hid (leastO_step (B := B) (m := m) hlt)
      obtain ⟨x, hx⟩ : ∃ x, x = l[k] := ⟨_, rfl⟩
      rw [← hx] at hc1 hc2 Hst
      obtain ⟨x1, x2⟩ := x
      obtain ⟨wa, hwa⟩ : ∃ wa, wa = wk.alloc (.cells #[.int .i64 x1, .int .i64 x2] 44) := ⟨_, rfl⟩
      have Hwa := Lib.hid hwa
      have Hba := Lib.hid (show Below wk.heap.size wk wa by rw [hwa]; exact below_alloc _ _)
      have HWo := Lib.hid (without_any (.slice AM m.length cM) m (x1, x2) wa (RWants.stable.up (RWants.stable.sub HM.out fun b hb => hb.2) Hba.out) (by have := HML.out; omega))
      clear hx hat hc hm' hSb hq hwa
      go_wp2_with fail
      rw [← Hwa.out]
      refine HWo.out.mono ?_
      rintro e w3 ⟨v3, rfl, ho3, b3⟩
      obtain ⟨A3, c3, rfl⟩ := ho3.shape
      obtain ⟨m2, hm2⟩ : ∃ m2, m2 = withoutW m (x1, x2) := ⟨_, rfl⟩
      have Hmm := Lib.hid (show m2.length ≤ m.length by rw [hm2]; exact List.length_filter_le _ _)
      rw [← hm2] at ho3 Hst ⊢
      have HR3 := Lib.hid (show RWants w3 (fun b => S b ∧ b < w3.heap.size) _ _ from RWants.stable.sub ho3.reads fun b hb => ⟨HS.out b (by have := hb.1; have := Hba.out.size; have := Hbww.out.size; omega), hb.2⟩)
      have HB3 := Lib.hid (Hba.out.trans (b3.mono Hba.out.size))
      obtain ⟨hcc, hff⟩ := bcell HB3.out
      have hk3 : wk.heap.size ≤ w3.heap.size := HB3.out.size
      clear ho3 b3 hm2 HWo
      go_wp2_with fail
      have Hbw3 := Lib.hid (Hbww.out.trans (HB3.out.mono Hbww.out.size))
      have hr7 := Hr7.out
      refine (Only_any (.slice A0 items.length c0) (.slice A1 wss.length c1) (.slice A3 m2.length c3) r items wss m2 w3 (RItems.stable.up H0.out Hbw3.out) (RIntsss.stable.up HW.out Hbw3.out) (RWants.stable.sub HR3.out fun b hb => hb.2) (by omega) (fun ws hw => by
        obtain ⟨i, hi, rfl⟩ := List.getElem_of_mem hw
        have := (hr7.2.2 i hi).1; omega) (by omega) (fun ws hw x hx => by
        obtain ⟨i, hi, rfl⟩ := List.getElem_of_mem hw
        have := (hr7.2.2 i hi).2 x hx; omega)).mono ?_
      rintro e w4 hq4
      unfold OnlyPost at hq4
      obtain ⟨vI, vW, rfl, hI4, hW4, b4⟩ := hq4
      have HI4 := Lib.hid hI4
      have HW4 := Lib.hid hW4
      have HB4 := Lib.hid (HB3.out.trans (b4.mono HB3.out.size))
      have HR4 := Lib.hid (want_up HR3.out b4)
      have hib := HB.out m2
      have hm2l := Hmm.out
      obtain ⟨hcc4, hff4⟩ := bcell b4
      clear hI4 hW4 b4 hcc hff hr7 hq0 hq1 hq2 hc1 hc2
      have HIb := Lib.hid (isBlamed_any vI vW r items (onlyW m2 wss) most w4 (B m2) HI4.out HW4.out (only_light _ HL.out) Hmo.out Hm2.out hib)
      clear hib hcc4 hff4
      cases hBm : B m2 with
      | error p =>
        rw [hBm] at Hst HIb
        have Hfin := Lib.hid (HE.out.trans Hst.out)
        clear hBm
        go_wp2_with (go_at_call 28; with_reducible refine HIb.out.mono ?_; rintro e w5 ⟨rfl, b5⟩; go_loud (unfold ibEnd; have HB5 := Lib.hid (HB4.out.trans (b5.mono HB4.out.size)); clear b5))
        refine ⟨rfl, ?_, Hbww.out.trans (HB5.out.mono Hbww.out.size)⟩
        rw [Hfin.out]; rfl
      | ok bb =>
        rw [hBm] at Hst HIb
        have Hfin := Lib.hid (HE.out.trans Hst.out)
        clear hBm
        cases bb with
        | true =>
          go_wp2_with (go_at_call 28; with_reducible refine HIb.out.mono ?_; rintro e w5 ⟨rfl, b5⟩; go_loud (unfold ibEnd; have HB5 := Lib.hid (HB4.out.trans (b5.mono HB4.out.size)); have HR5 := Lib.hid (want_up HR4.out b5); clear b5))
          go_roundw
          case rel => exact ⟨k + 1, m2, by omega, by go_num, HR5, Lib.hid (by rw [Hfin.out]; rfl), Lib.hid (Nat.le_trans Hmm.out HML.out), Lib.hid (HBk.out.trans (HB5.out.mono HBk.out.size))⟩
          case measure => simp [intOf]; omega
        | false =>
          go_wp2_with (go_at_call 28; with_reducible refine HIb.out.mono ?_; rintro e w5 ⟨rfl, b5⟩; go_loud (unfold ibEnd; have HB5 := Lib.hid (HB4.out.trans (b5.mono HB4.out.size)); clear b5))
          go_roundw
          case rel => exact ⟨k + 1, m, by omega, by go_num, Lib.hid (want_up HM.out HB5.out), Lib.hid (by rw [Hfin.out]; rfl), HML, Lib.hid (HBk.out.trans (HB5.out.mono HBk.out.size))⟩
          case measure => simp [intOf]; omega
    · obtain rfl : k = l.length := by omega
      have Hfin := Lib.hid (show leastO B l l = .ok m by rw [HE.out, List.drop_length]; rfl)
      go_wp2
      go_ret
      exact ⟨by rw [Hfin.out]; exact ⟨_, rfl, HM.out⟩, Hbww.out⟩
end Go.Proofs.Ytcebafeaikipmaa
