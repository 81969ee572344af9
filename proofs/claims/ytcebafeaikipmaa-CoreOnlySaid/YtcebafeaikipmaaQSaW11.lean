/- units: all that follows is set. -/
import Derived.Deep.LoopGhost
import Derived.Test.YtcebafeaikipmaaZf
import Derived.Test.YtcebafeaikipmaaZi
namespace Go.Proofs.Ytcebafeaikipmaa.S15
open Go.RowKit

set_option maxRecDepth 100000 in
set_option maxHeartbeats 8000000 in
theorem units_any {U : Nat → Prop} {D : List Nat → Prop} (hD : Dcl D) {w : World} {B S : Nat} {ad : List Nat} {vl : Rl → Value} {s : St} (h : SAt w B S ad vl s) (hu : UI U D s fun _ _ => False) (hM : s.cls.length ≤ 1000000000) :
    Calls Try.prog 50 #[.pointer (some ⟨S, 0, none⟩)] w fun e w' => e = .returned (oC ad (unitsS (s.vars + 1) s).2) ∧ ∃ vl', SAt w' B S ad vl' (unitsS (s.vars + 1) s).1 ∧ Stp w B S ad vl w' ad vl' := by
  have H := Lib.hid h
  have Hu := Lib.hid hu
  have hsm := hu.shp.sm
  have hle := hu.tr.len
  have hdn := hu.tr.dn
  obtain ⟨V, hV⟩ : ∃ V, V = s.vars := ⟨_, rfl⟩
  obtain ⟨R, hR⟩ : ∃ R, R = unitsS (s.vars + 1) s := ⟨_, rfl⟩
  rw [← hR]
  rw [← hV] at hR hsm hle
  have HR := Lib.hid hR
  have HV := Lib.hid hV
  clear h hu hR hV
  go_enter Try.func50, Try.ntmps50
  go_wp2_with fail
  go_loopg [] (V - s.done) (fun gk wr => ∃ (t : St) (vl' : Rl → Value), Hid (UI U D t (fun _ _ => False) ∧ Ext s t ∧ (∃ f, R = unitsS f t ∧ V + 1 ≤ f + t.done) ∧ gk = V - t.done) ∧ Hid (SAt wr B S ad vl' t) ∧ Hid (Stp w B S ad vl wr ad vl'))
  case atStart => exact ⟨s, vl, Lib.hid ⟨Hu.out, Ext.refl s, ⟨V + 1, HR.out, by omega⟩, rfl⟩, H, Lib.hid (Stp.refl _ _ _ _ _)⟩
  case round =>
    obtain ⟨t, vl', HT, HA, PA⟩ := hrel
    obtain ⟨hui, hext, ⟨f, hf, hfl⟩, hgk⟩ := HT.out
    have tdn := hui.tr.dn
    have tle := hui.tr.len
    have tv := hext.vars
    have tsm := hui.shp.sm
    have htc : t.cls.length ≤ 1000000000 := by rw [hext.len]; exact hM
    rw [tv, ← HV.out] at tle
    obtain ⟨At, ct, htr⟩ := (HA.out.rows .tr).shape
    simp only [cont, List.length_map] at htr
    have b12 := HA.out.cellS (k := 12) (v := .int .i64 (t.done : Int)) rfl
    have b10 := HA.out.cellS (k := 10) (v := vl' .tr) rfl
    rw [htr] at b10
    have Htr := Lib.hid htr
    have Hf := Lib.hid hf
    obtain ⟨N, hN⟩ : ∃ N, N = t.trail.length := ⟨_, rfl⟩
    obtain ⟨dn, hdn2⟩ : ∃ dn, dn = t.done := ⟨_, rfl⟩
    rw [← hN] at b10 tdn tle Htr
    rw [← hdn2] at b12 tdn hfl hgk
    have HN := Lib.hid hN
    have Hdn := Lib.hid hdn2
    have Hui := Lib.hid hui
    have Hext := Lib.hid hext
    have Hgk := Lib.hid hgk
    clear htr hf hN hdn2 hui hext tv tsm HT hgk
    by_cases hd : dn < N
    · have z1 : decide (dn < N) = true := decide_eq_true hd
      have hui := Hui.out
      have hzd : t.done < t.trail.length := by rw [← HN.out, ← Hdn.out]; exact hd
      have hst := hui.start hzd
      obtain ⟨z, hz⟩ : ∃ z, z = t.trail.getD t.done 0 := ⟨_, rfl⟩
      have hzm : z ∈ t.trail := by rw [hz]; exact getD_mem hzd
      have hzo := hui.tr.ok z hzm
      have hzo2 := okL_nt hzo
      have e10 := HA.out.rows .tr
      rw [Htr.out] at e10
      obtain ⟨gt, hgt⟩ : ∃ gt, At = some ⟨gt, 0, none⟩ := by
        obtain ⟨g', c', e', -⟩ := (HA.out.rows .tr).form (by simp [cont]; omega)
        rw [Htr.out] at e'
        injection e' with e' _ _
        exact ⟨g', e'⟩
      rw [hgt] at b10 Htr e10
      have bd0 : wr.cell? ⟨gt, dn, none⟩ = some (.int .i64 (z : Int)) := e10.cell (by rw [Hdn.out]; simp only [cont, List.getElem?_map]; rw [hz, List.getD_eq_getElem?_getD, List.getElem?_eq_getElem hzd]; rfl)
      have hN2 : N ≤ ct := by have := e10.len.2; omega
      obtain ⟨x, hx⟩ : ∃ x, x = nt z := ⟨_, rfl⟩
      have HNot := Lib.hid (fun w => show Calls Try.prog 60 #[.int .i64 (z : Int)] w fun e w' => e = .returned (.int .i64 (x : Int)) ∧ w' = w by
        have h9 := not_any z w (by have := hzo.2; have := hui.shp.sm; omega)
        rw [← hx] at h9
        exact h9)
      rw [← hz, ← hx] at hst
      rw [← hx] at hzo2
      have Hst := Lib.hid hst
      have Hz := Lib.hid hz
      have Hx := Lib.hid hx
      have Hzo2 := Lib.hid hzo2
      clear hst hz hx hzm hzo hui hzd e10 hzo2 hgt
      go_wp2_with fail
      go_quiet (fail)
      go_wp2_with fail
      obtain ⟨w1, hw1⟩ : ∃ w1, w1 = wr.drewN nq := ⟨_, rfl⟩
      have HA1 := Lib.hid (show SAt w1 B S ad vl' t by rw [hw1]; exact HA.out.new (below_drewN (Below.refl _ _) _))
      have PA1 := Lib.hid (show Stp w B S ad vl w1 ad vl' by rw [hw1]; exact PA.out.trans (HA.out.stpNew (below_drewN (Below.refl _ _) _)))
      have c12 : w1.cell? ⟨S, 12, none⟩ = some (.int .i64 (dn : Int)) := by rw [hw1]; simpa using b12
      have c10 : w1.cell? ⟨S, 10, none⟩ = some (.slice (some ⟨gt, 0, none⟩) N ct) := by rw [hw1]; simpa using b10
      have d10 : w1.cell? ⟨gt, dn, none⟩ = some (.int .i64 (z : Int)) := by rw [hw1]; simpa using bd0
      rw [← hw1]
      clear hw1 HA PA b12 b10 bd0
      go_quiet ((go_at_call 60; exact Calls.quiet_of_same (HNot.out _)))
      obtain ⟨w2, hw2⟩ : ∃ w2, w2 = w1.drewN nq := ⟨_, rfl⟩
      have HA2 := Lib.hid (show SAt w2 B S ad vl' t by rw [hw2]; exact HA1.out.new (below_drewN (Below.refl _ _) _))
      have PA2 := Lib.hid (show Stp w B S ad vl w2 ad vl' by rw [hw2]; exact PA1.out.trans (HA1.out.stpNew (below_drewN (Below.refl _ _) _)))
      clear c12 c10 d10 HA1 PA1
      rw [← hw2]
      clear hw2
      have c12 := HA2.out.cellS (k := 12) (v := .int .i64 (t.done : Int)) rfl
      have f12 := HA2.out.frozenS 12
      rw [← Hdn.out] at c12
      have h3 := HA2.out.setNum 12 (.int .i64 ((dn + 1 : Nat) : Int)) (nextS t) (fun r => by cases r <;> rfl) (by rw [Hdn.out]; rfl) rfl (fun _ _ => rfl)
      have HA3 := Lib.hid h3
      have PA3 := Lib.hid (PA2.out.trans (HA2.out.stpNum 12 (.int .i64 ((dn + 1 : Nat) : Int))))
      obtain ⟨w3, hw3⟩ : ∃ w3, w3 = w2.setCell ⟨S, 12, none⟩ (.int .i64 ((dn : Int) + 1)) := ⟨_, rfl⟩
      have hw3' : w3 = w2.setCell ⟨S, 12, none⟩ (.int .i64 ((dn + 1 : Nat) : Int)) := by rw [hw3]; rfl
      rw [← hw3'] at HA3 PA3
      clear h3 hw3'
      -- the row of watches
      obtain ⟨gw, cw, hwt, -, hgw, hcw, -⟩ := (HA3.out.rows .wt).form (by simp [cont, nextS]; have := Hst.out.shp.wt; have := Hst.out.ox.2; unfold nextS at *; simp at *; omega)
      simp only [cont, List.length_map, List.length_range] at hwt hcw
      have c3 := HA3.out.cellS (k := 3) (v := vl' .wt) rfl
      rw [hwt] at c3
      have e3 := HA3.out.rows .wt
      rw [hwt] at e3
      have hxw : x < (nextS t).watch.length := by rw [Hst.out.shp.wt]; exact Hst.out.ox.2
      have d3 : w3.cell? ⟨gw, x, none⟩ = some (vl' (.wr x)) := e3.cell (by simp [cont, hxw])
      have Hwt := Lib.hid hwt
      have Hc3 := Lib.hid c3
      have Hd3 := Lib.hid d3
      rw [hw3] at c3 d3
      have Hw3 := Lib.hid hw3
      clear e3 hwt hw3 HA2 PA2
      obtain ⟨Ar, cr, hwr⟩ := (HA3.out.rows (.wr x)).shape
      simp only [cont, List.length_map] at hwr
      obtain ⟨old, hold⟩ : ∃ old, old = t.wa x := ⟨_, rfl⟩
      have hwr : vl' (.wr x) = .slice Ar old.length cr := by rw [hwr, hold]; rfl
      rw [hwr] at d3
      obtain ⟨n, hn⟩ : ∃ n, n = old.length := ⟨_, rfl⟩
      rw [← hn] at d3 hwr
      have hoc : n ≤ t.cls.length := by
        have := Hst.out.wlen x
        have e1 : (nextS t).wa x = old := by rw [hold]; rfl
        rw [e1, ← hn] at this; exact this
      have hown := HA3.out.rows (.wr x)
      rw [hwr] at hown
      have hncr : n ≤ cr := hown.len.2
      have hst2 := Hst.out
      rw [← hold] at hst2
      have Hin := Lib.hid (InR.start hst2 (show (nextS t).wa x = old by rw [hold]; rfl))
      have HU := Lib.hid (show unitS1 t = innerS x old (nextS t) [] none by unfold unitS1; rw [← Hz.out, ← Hx.out, ← hold])
      have Hwr := Lib.hid hwr
      have Hn := Lib.hid hn
      have hcr3 : cr ≤ 9223372036854775807 := by
        rcases hown with ⟨e, _⟩ | ⟨g, _, _, e, _, _, _, _, q, _⟩
        · injection e with e3 e4 e5; omega
        · injection e with e3 e4 e5; unfold maxLen at q; omega
      have Hweq := Lib.hid (show (nextS t).wa x = old by rw [hold]; rfl)
      have hnil : (Ar = none ∧ n = 0) ∨ ∃ g, Ar = some ⟨g, 0, none⟩ := by
        rcases hown with ⟨e, e2⟩ | ⟨g, _, _, e, _⟩
        · injection e with e3 e4 e5; exact .inl ⟨e3, e4⟩
        · injection e with e3 e4 e5; exact .inr ⟨g, e3⟩
      clear hwr hold hn hown hst2 Hst
      go_wp2_with fail
      rw [← Hw3.out]
      clear c12 f12 c3 d3
      rcases hnil with ⟨rfl, rfl⟩ | ⟨g, rfl⟩
      · have c3 := Hc3.out
        have d3 := Hd3.out
        rw [Hwr.out] at d3
        have e3 := HA3.out.rows .wt
        rw [Hwt.out] at e3
        have f3 := e3.frozen x
        have hold0 : old = [] := List.eq_nil_of_length_eq_zero Hn.out.symm
        have hU1 := HU.out
        rw [hold0, innerS] at hU1
        obtain ⟨m1, m2, m3⟩ := Hui.out.unit1 hD (by rw [← HN.out, ← Hdn.out]; exact hd)
        rw [← Hz.out, ← Hx.out, hU1] at m1 m2
        rw [hU1, ← Hdn.out] at m3
        simp only at m1 m2 m3
        obtain ⟨f', hf'⟩ : ∃ f', f = f' + 1 := ⟨f - 1, by omega⟩
        have hRR := Hf.out
        rw [hf', unitsS_go f' (by rw [← HN.out, ← Hdn.out]; exact hd), hU1, ← Hz.out, ← Hx.out] at hRR
        simp only at hRR
        have hQ : SAt w3 B S ad vl' (eff (nextS t) x old) := by rw [eff_self Hweq.out]; exact HA3.out
        obtain ⟨j1, j2⟩ := hQ.setKept (kept := []) (v := .slice none 0 0) hxw Hwt.out (.inl ⟨rfl, rfl⟩) (fun b hb => by cases hb)
        have J1 := Lib.hid j1
        have J2 := Lib.hid (PA3.out.trans j2)
        have HR2 := Lib.hid hRR
        have M1 := Lib.hid m1
        have M2 := Lib.hid (Hext.out.trans m2)
        clear j1 j2 hRR m1 m2 e3 hU1 hold0 hQ
        go_loopw [5, 6, 52] (fun v5 v6 v52 w' => v5 = .slice none 0 0 ∧ v6 = .pointer none ∧ v52 = .int .i64 0 ∧ w' = w3) (fun _ _ _ _ => 0)
        case atStart => exact ⟨rfl, rfl, rfl, rfl⟩
        case round =>
          obtain ⟨rfl, rfl, rfl, rfl⟩ := hrel
          go_wp2
          go_roundg (V - (nextS t).done)
          case rel => exact ⟨eff (nextS t) x [], _, Lib.hid ⟨M1.out.fin, M2.out, ⟨f', HR2.out, by show V + 1 ≤ f' + (nextS t).done; omega⟩, rfl⟩, J1, J2⟩
          case measure => have := Hgk.out; omega
      · have c3 := Hc3.out
        have d3 := Hd3.out
        rw [Hwr.out] at d3
        go_loopw [5, 6, 52] (fun v5 v6 v52 w' => ∃ (i k : Nat) (q : St) (vl2 : Rl → Value) (F kept : List Nat) (bad : Option Nat), i ≤ n ∧ k ≤ i ∧ v52 = .int .i64 i ∧ v5 = .slice (some ⟨g, 0, none⟩) k n ∧ v6 = oC ad bad ∧ Hid (k = kept.length) ∧ Hid (SAt w' B S ad vl2 (eff q x F)) ∧ Hid (Stp w B S ad vl w' ad vl2) ∧ Hid (InR U D (nextS t) x old i q F kept bad) ∧ Hid (vl2 (.wr x) = .slice (some ⟨g, 0, none⟩) n cr)) (fun _ _ v52 _ => n - (intOf v52).toNat)
        case atStart => exact ⟨0, 0, nextS t, vl', old, [], none, Nat.zero_le _, Nat.le_refl _, rfl, rfl, rfl, Lib.hid rfl, Lib.hid (by rw [eff_self Hweq.out]; exact HA3.out), PA3, Hin, Hwr⟩
        case round =>
          clear c3 d3
          obtain ⟨w4, hw4⟩ : ∃ w4 : World, w4 = wr := ⟨_, rfl⟩
          rw [← hw4] at hrel ⊢
          clear hw4
          obtain ⟨i, k, q, vl2, F, kept, bad, hin, hki, rfl, rfl, rfl, Hk, HQ, PQ, HI, HV2⟩ := hrel
          rcases Nat.lt_or_ge i n with hi | hi
          · have hi2 : i < old.length := by rw [← Hn.out]; exact hi
            obtain ⟨c, hc⟩ : ∃ c, c = old[i] := ⟨_, rfl⟩
            have hcl : c < q.cls.length := by rw [hc]; exact HI.out.cLt hi2
            obtain ⟨a, ha⟩ : ∃ a, a = ad.getD c 0 := ⟨_, rfl⟩
            have Ha := Lib.hid (show pC ad c = .pointer (some ⟨a, 0, none⟩) by rw [ha]; rfl)
            have eF := HQ.out.rows (.wr x)
            rw [HV2.out] at eF
            have hxw2 := HI.out.xw
            have dF : w4.cell? ⟨g, i, none⟩ = some (.pointer (some ⟨a, 0, none⟩)) := by
              rw [← Ha.out]
              exact eF.cell (by simp only [cont, eff]; rw [List.getD_eq_getElem?_getD, List.getElem?_set_self hxw2, Option.getD_some, List.getElem?_map, HI.out.at_ hi2, hc]; rfl)
            have dG : w4.cell? ⟨a, 2, none⟩ = some (.bool (q.cl c).gone) := by rw [ha]; exact HQ.out.cellC (k := 2) hcl rfl
            have Hc := Lib.hid hc
            clear eF ha hc
            cases hg : (q.cl c).gone with
            | true =>
              rw [hg] at dG
              have HI2 := Lib.hid (HI.out.gone hi2 (by rw [← Hc.out]; exact hg))
              clear hg
              go_wp2
              go_roundw
              case rel => exact ⟨i + 1, k, q, vl2, F, kept, bad, by omega, by omega, by go_num, rfl, rfl, Hk, HQ, PQ, HI2, HV2⟩
              case measure => simp [intOf]; omega
            | false =>
              rw [hg] at dG
              have Hg := Lib.hid (show (q.cl old[i]).gone = false by rw [← Hc.out]; exact hg)
              clear hg
              have hkn : k < n := by omega
              cases bad with
              | some b =>
                have hob : oC ad (some b) = .pointer (some ⟨ad.getD b 0, 0, none⟩) := rfl
                obtain ⟨pb, hpb⟩ : ∃ pb, pb = ad.getD b 0 := ⟨_, rfl⟩
                rw [hob, ← hpb]
                have Hpb := Lib.hid hpb
                have HI2 := Lib.hid (HI.out.bad hi2 Hg.out)
                rw [← Hk.out, ← Hc.out] at HI2
                obtain ⟨cur, m1, m2, m3, m4⟩ := HQ.out.keptPush (k := k) hxw2 HV2.out c
                rw [Ha.out] at m1 m3 m4
                have M1 := Lib.hid m1
                have M3 := Lib.hid m3
                have M4 := Lib.hid (PQ.out.trans m4)
                have HK2 := Lib.hid (show k + 1 = (kept ++ [c]).length by rw [List.length_append, ← Hk.out]; rfl)
                clear hob hpb m1 m3 m4
                go_wp2_with (at_builtin; refine wpList_roomG rfl _ _ _ rfl eCls (b := g) (k := k) (n := n) rfl hkn M1.out m2 w4.heap.size (.pointer (some ⟨a, 0, none⟩)) rfl (one_new w4 _ _) rfl ?_)
                go_roundw
                case rel => exact ⟨i + 1, k + 1, q, vl2, F.set k c, kept ++ [c], some b, by omega, by omega, by go_num, rfl, by rw [Hpb.out]; rfl, HK2, M3, M4, HI2, HV2⟩
                case measure => simp [intOf]; omega
              | none =>
                have hob : oC ad none = .pointer none := rfl
                rw [hob]
                clear hob
                obtain ⟨k1, k2, k3, k4, k5, k6⟩ := HI.out.asks (by rw [← Hn.out, HI.out.ext.len]; exact hoc) hi2
                rw [← Hc.out] at k2 k3 k4
                have HL := Lib.hid (look_any HQ.out k1 c k2 k3 k4 x k5 q.cls.length k6 (by rw [HI.out.ext.len]; exact htc))
                have hvx := HI.out.vx
                have hle := lookS_eff (s := q) hvx F c
                rw [hle, Ha.out] at HL
                have HI2 := Lib.hid (HI.out.look hD hi2 Hg.out)
                rw [← Hc.out] at HI2
                have Hvx := Lib.hid hvx
                clear k1 k2 k3 k4 k5 k6 hvx hle
                obtain ⟨L, hL⟩ : ∃ L, L = lookS q c x := ⟨_, rfl⟩
                rw [← hL] at HL HI2
                clear hL
                obtain ⟨q', mv, ok⟩ := L
                simp only at HL HI2
                cases mv with
                | true =>
                  simp only [if_true] at HI2
                  cases ok with
                  | true =>
                    simp only [if_true] at HI2
                    go_wp2_with (go_at_call 62; with_reducible refine HL.out.mono ?_; rintro e w5 ⟨rfl, vl3, h5, p5, hz5⟩; (have H5 := Lib.hid h5; have P5 := Lib.hid (PQ.out.trans p5); have V5 := Lib.hid ((hz5 x Hvx.out).trans HV2.out); clear h5 p5 hz5))
                    go_roundw
                    case rel => exact ⟨i + 1, k, q', vl3, F, kept, none, by omega, by omega, by go_num, rfl, rfl, Hk, H5, P5, HI2, V5⟩
                    case measure => simp [intOf]; omega
                  | false =>
                    simp only [Bool.false_eq_true, if_false] at HI2
                    go_wp2_with (go_at_call 62; with_reducible refine HL.out.mono ?_; rintro e w5 ⟨rfl, vl3, h5, p5, hz5⟩; (have H5 := Lib.hid h5; have P5 := Lib.hid (PQ.out.trans p5); have V5 := Lib.hid ((hz5 x Hvx.out).trans HV2.out); clear h5 p5 hz5))
                    go_roundw
                    case rel => exact ⟨i + 1, k, q', vl3, F, kept, some c, by omega, by omega, by go_num, rfl, Ha.out.symm, Hk, H5, P5, HI2, V5⟩
                    case measure => simp [intOf]; omega
                | false =>
                  simp only [Bool.false_eq_true, if_false] at HI2
                  rw [← Hk.out] at HI2
                  have hxw3 := HI2.out.xw
                  have HK2 := Lib.hid (show k + 1 = (kept ++ [c]).length by rw [List.length_append, ← Hk.out]; rfl)
                  cases ok with
                  | true =>
                    simp only [if_true] at HI2
                    go_wp2_with (first
                      | (go_at_call 62; with_reducible refine HL.out.mono ?_; rintro e w5 ⟨rfl, vl3, h5, p5, hz5⟩; (have V5 := Lib.hid ((hz5 x Hvx.out).trans HV2.out); obtain ⟨cur, m1, m2, m3, m4⟩ := h5.keptPush (k := k) hxw3 V5.out c; rw [Ha.out] at m1 m3 m4; have M1 := Lib.hid m1; have M3 := Lib.hid m3; have M4 := Lib.hid ((PQ.out.trans p5).trans m4); clear h5 p5 hz5 m1 m3 m4))
                      | (at_builtin; refine wpList_roomG rfl _ _ _ rfl eCls (b := g) (k := k) (n := n) rfl hkn M1.out m2 w5.heap.size (.pointer (some ⟨a, 0, none⟩)) rfl (one_new w5 _ _) rfl ?_))
                    go_roundw
                    case rel => exact ⟨i + 1, k + 1, q', vl3, F.set k c, kept ++ [c], none, by omega, by omega, by go_num, rfl, rfl, HK2, M3, M4, HI2, V5⟩
                    case measure => simp [intOf]; omega
                  | false =>
                    simp only [Bool.false_eq_true, if_false] at HI2
                    go_wp2_with (first
                      | (go_at_call 62; with_reducible refine HL.out.mono ?_; rintro e w5 ⟨rfl, vl3, h5, p5, hz5⟩; (have V5 := Lib.hid ((hz5 x Hvx.out).trans HV2.out); obtain ⟨cur, m1, m2, m3, m4⟩ := h5.keptPush (k := k) hxw3 V5.out c; rw [Ha.out] at m1 m3 m4; have M1 := Lib.hid m1; have M3 := Lib.hid m3; have M4 := Lib.hid ((PQ.out.trans p5).trans m4); clear h5 p5 hz5 m1 m3 m4))
                      | (at_builtin; refine wpList_roomG rfl _ _ _ rfl eCls (b := g) (k := k) (n := n) rfl hkn M1.out m2 w5.heap.size (.pointer (some ⟨a, 0, none⟩)) rfl (one_new w5 _ _) rfl ?_))
                    go_roundw
                    case rel => exact ⟨i + 1, k + 1, q', vl3, F.set k c, kept ++ [c], some c, by omega, by omega, by go_num, rfl, Ha.out.symm, HK2, M3, M4, HI2, V5⟩
                    case measure => simp [intOf]; omega
          · obtain rfl : i = n := by omega
            have hU1 := HU.out.trans HI.out.eq
            have hdr : old.drop i = [] := List.drop_of_length_le (by rw [← Hn.out]; exact Nat.le_refl _)
            rw [hdr, innerS] at hU1
            obtain ⟨m1, m2, m3⟩ := Hui.out.unit1 hD (by rw [← HN.out, ← Hdn.out]; exact hd)
            rw [← Hz.out, ← Hx.out, hU1] at m1 m2
            rw [hU1, ← Hdn.out] at m3
            simp only at m1 m2 m3
            obtain ⟨f', hf'⟩ : ∃ f', f = f' + 1 := ⟨f - 1, by omega⟩
            have hRR := Hf.out
            rw [hf', unitsS_go f' (by rw [← HN.out, ← Hdn.out]; exact hd), hU1, ← Hz.out, ← Hx.out] at hRR
            simp only at hRR
            obtain ⟨gw2, cw2, hwt2, -, hgw2, hcw2, -⟩ := (HQ.out.rows .wt).form (by simp [cont, eff]; have := HI.out.xw; omega)
            simp only [cont, List.length_map, List.length_range] at hwt2 hcw2
            have hxw2 : x < (eff q x F).watch.length := by have := HI.out.xw; simpa [eff] using this
            have c3 := HQ.out.cellS (k := 3) (v := vl2 .wt) rfl
            rw [hwt2] at c3
            have e3 := HQ.out.rows .wt
            rw [hwt2] at e3
            have d3 : w4.cell? ⟨gw2, x, none⟩ = some (vl2 (.wr x)) := e3.cell (by simp only [cont, List.getElem?_map]; rw [List.getElem?_range hxw2]; rfl)
            have f3 := e3.frozen x
            rw [HV2.out] at d3
            have hrow := HQ.out.rows (.wr x)
            rw [HV2.out] at hrow
            have hcF : cont (eff q x F) ad vl2 (.wr x) = F.map (pC ad) := by simp only [cont, eff]; rw [List.getD_eq_getElem?_getD, List.getElem?_set_self HI.out.xw]; rfl
            rw [hcF] at hrow
            have hkl : k ≤ F.length := by have := HI.out.len; have := Hn.out; omega
            have hcut := hrow.take k i (by simpa using hkl) hncr hki
            have htk : (F.map (pC ad)).take k = kept.map (pC ad) := by rw [← List.map_take]; have := HI.out.tk; rw [← Hk.out] at this; rw [this]
            rw [htk] at hcut
            obtain ⟨j1, j2⟩ := HQ.out.setKept HI.out.xw hwt2 hcut (by rw [HV2.out]; exact fun b hb => .inl hb)
            have J1 := Lib.hid j1
            have J2 := Lib.hid (PQ.out.trans j2)
            have HR2 := Lib.hid hRR
            have M1 := Lib.hid m1
            have M2 := Lib.hid (Hext.out.trans m2)
            clear j1 j2 hRR m1 m2 hrow hcF hcut htk e3 hwt2 hdr hU1
            cases bad with
            | some b =>
              have hob : oC ad (some b) = .pointer (some ⟨ad.getD b 0, 0, none⟩) := rfl
              obtain ⟨pb, hpb⟩ : ∃ pb, pb = ad.getD b 0 := ⟨_, rfl⟩
              rw [hob, ← hpb]
              have Hpb := Lib.hid hpb
              clear hob hpb
              go_wp2
              go_ret
              rw [HR2.out]
              refine ⟨?_, _, J1.out, J2.out⟩
              rw [Hpb.out]; rfl
            | none =>
              have hob : oC ad none = .pointer none := rfl
              rw [hob]
              clear hob
              go_wp2
              go_roundg (V - q.done)
              case rel => exact ⟨eff q x kept, _, Lib.hid ⟨M1.out.fin, M2.out, ⟨f', HR2.out, by show V + 1 ≤ f' + q.done; omega⟩, rfl⟩, J1, J2⟩
              case measure => have := Hgk.out; omega
    · have z1 : decide (dn < N) = false := decide_eq_false hd
      have hR : R = (t, none) := by
        obtain ⟨f', rfl⟩ : ∃ f', f = f' + 1 := ⟨f - 1, by omega⟩
        rw [Hf.out, unitsS_end f' (by rw [← HN.out, ← Hdn.out]; exact hd)]
      have HR2 := Lib.hid hR
      clear hR hd
      go_wp2
      go_quiet (fail)
      go_wp2
      go_ret
      rw [HR2.out]
      exact ⟨rfl, _, HA.out.new (below_drewN (Below.refl _ _) _), PA.out.trans (HA.out.stpNew (below_drewN (Below.refl _ _) _))⟩
end Go.Proofs.Ytcebafeaikipmaa.S15
