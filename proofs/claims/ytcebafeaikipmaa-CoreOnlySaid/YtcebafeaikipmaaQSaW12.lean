/- learn: of a clause that is false the one that is learned. -/
import Derived.Deep.LoopGhost
import Derived.Deep.RegionHeld3
import Derived.Test.YtcebafeaikipmaaZg
namespace Go.Proofs.Ytcebafeaikipmaa.S15
open Go.RowKit

/-- learning, clause by clause: where it stands -/
structure LwI (U : Nat → Prop) (D : List Nat → Prop) (s t : St) (c0 c opn at_ : Nat) (out : List Nat) : Prop where
  ex : ∃ k f, Lw s t at_ opn out k ∧ k + at_ ≤ s.trail.length ∧ at_ < f ∧ walkS (s.trail.length + 1) s c0 0 s.trail.length [0] = walkS f t c opn at_ out
  lc : Lc s t at_ c
  top : (∃ z ∈ s.trail, t.sn (z / 2) = true ∧ s.lv z = s.ends.length) ∨ ∃ y ∈ (s.cl c).lits, s.val y = 2 ∧ s.lv y = s.ends.length
  le : at_ ≤ s.trail.length
set_option maxRecDepth 100000 in
set_option maxHeartbeats 8000000 in
theorem learn_any {U : Nat → Prop} {D : List Nat → Prop} {w : World} {B S : Nat} {ad : List Nat} {vl : Rl → Value} {s : St} {c0 : Nat} (h : SAt w B S ad vl s) (hc : Conf U D s c0) (hs : ∀ v, s.sn v = false) (ha : Av s) (he : 1 ≤ s.ends.length) (hu : ∀ c, (s.cl c).used ≤ 4000000000000000000) :
    Calls Try.prog 52 #[.pointer (some ⟨S, 0, none⟩), pC ad c0] w fun e w' => ∃ v, e = .returned (.tuple #[v, .int .i64 ((learnS s c0).2.2 : Int)]) ∧ OwnG w' w.heap.size 94 v (iN (learnS s c0).2.1) ∧ SAt w' B S ad vl (learnS s c0).1 ∧ Stp w B S ad vl w' ad vl := by
  have hT := hc.ui.tr
  have hsh := hc.ui.shp
  have hl := hc.ui.lt
  obtain ⟨q1, q2, q3⟩ := hc.start hs ha
  obtain ⟨N, hN⟩ : ∃ N, N = s.trail.length := ⟨_, rfl⟩
  have hNv : N ≤ 2000 := by have := hT.len; have := hsh.sm; omega
  have HI := Lib.hid (show LwI U D s s c0 c0 0 N [0] from ⟨⟨0, N + 1, by rw [hN]; exact q1, by omega, by omega, by rw [hN]⟩, by rw [hN]; exact q2, .inr q3, by omega⟩)
  have hlo := h.loQ
  obtain ⟨Q, hQ⟩ : ∃ Q, Q = w.heap.size := ⟨_, rfl⟩
  rw [← hQ] at hlo ⊢
  have HQ := Lib.hid hQ
  have Hlo := Lib.hid hlo
  have H := Lib.hid h
  have HT := Lib.hid hT
  have Hsh := Lib.hid hsh
  have Hl := Lib.hid hl
  have HN := Lib.hid hN
  have Hu := Lib.hid hu
  obtain ⟨R, hR⟩ : ∃ R, R = learnS s c0 := ⟨_, rfl⟩
  rw [← hR]
  have HR := Lib.hid hR
  obtain ⟨At, ct, htr⟩ := (h.rows .tr).shape
  simp only [cont, List.length_map] at htr
  rw [← hN] at htr
  have c10 := h.cellS (k := 10) (v := vl .tr) rfl
  rw [htr] at c10
  have Htr := Lib.hid htr
  obtain ⟨a0, ha0⟩ : ∃ a0, a0 = ad.getD c0 0 := ⟨_, rfl⟩
  have Ha0 := Lib.hid (show pC ad c0 = .pointer (some ⟨a0, 0, none⟩) by rw [ha0]; rfl)
  rw [Ha0.out]
  have hSl := h.lt
  rw [← hQ] at hSl
  clear h hc hs ha hT hsh hl q1 q2 q3 hN hlo hQ hu hR htr ha0
  go_enter Try.func52, Try.ntmps52
  go_wp2_with fail
  have hown0 : OwnG (w.alloc (.cells #[.int .i64 0] 94)) Q 94 (.slice (some ⟨w.heap.size, 0, none⟩) 1 1) (iN [0]) := by
    rw [HQ.out]
    exact .inr ⟨w.heap.size, 1, #[.int .i64 0], rfl, Nat.le_refl _, heap_alloc_new w _, by simp, by simp, by unfold maxLen; omega, rfl⟩
  rw [← HQ.out] at hown0 ⊢
  obtain ⟨w1, hw1⟩ : ∃ w1, w1 = w.alloc (.cells #[.int .i64 0] 94) := ⟨_, rfl⟩
  rw [← hw1] at hown0 ⊢
  have H1 := Lib.hid (show SAt w1 B S ad vl s by rw [hw1]; exact H.out.new (below_alloc w _))
  have P1 := Lib.hid (show Stp w B S ad vl w1 ad vl by rw [hw1]; exact H.out.stpNew (below_alloc w _))
  have b10 := H1.out.cellS (k := 10) (v := vl .tr) rfl
  rw [Htr.out] at b10
  have HO1 := Lib.hid hown0
  clear c10 hw1 hown0
  go_quiet (fail)
  go_wp2_with fail
  clear b10
  obtain ⟨w2, hw2⟩ : ∃ w2, w2 = w1.drewN nq := ⟨_, rfl⟩
  have H2 := Lib.hid (show SAt w2 B S ad vl s by rw [hw2]; exact H1.out.new (below_drewN (Below.refl _ _) _))
  have P2 := Lib.hid (show Stp w B S ad vl w2 ad vl by rw [hw2]; exact P1.out.trans (H1.out.stpNew (below_drewN (Below.refl _ _) _)))
  have HO2 := Lib.hid (show OwnG w2 Q 94 (.slice (some ⟨Q, 0, none⟩) 1 1) (iN [0]) by rw [hw2]; exact HO1.out.kp fun _ _ => kp_new (below_drewN (Below.refl _ _) _) _)
  rw [← hw2]
  clear hw2 H1 P1 HO1
  go_loopw [1, 6, 7, 8] (fun v1 v6 v7 v8 wr => ∃ (t : St) (c opn a : Nat) (out : List Nat), v1 = pC ad c ∧ v7 = .int .i64 opn ∧ v8 = .int .i64 a ∧ Hid (LwI U D s t c0 c opn a out) ∧ Hid (SAt wr B S ad vl t) ∧ Hid (Stp w B S ad vl wr ad vl) ∧ Hid (OwnG wr Q 94 v6 (iN out))) (fun _ _ _ v8 _ => (intOf v8).toNat)
  case atStart => exact ⟨s, c0, 0, N, [0], Ha0.out.symm, rfl, rfl, HI, H2, P2, HO2⟩
  case round =>
    obtain ⟨w3, hw3⟩ : ∃ w3 : World, w3 = wr := ⟨_, rfl⟩
    rw [← hw3] at hrel ⊢
    clear hw3
    obtain ⟨t, c, opn, a, out, rfl, rfl, rfl, HI, HA, PA, HO⟩ := hrel
    obtain ⟨k, f, hLw, hka, haf, hwk⟩ := HI.out.ex
    have hcs : c < s.cls.length := HI.out.lc.lt
    have hct : c < t.cls.length := by rw [hLw.fr.len]; exact hcs
    obtain ⟨p, hp⟩ : ∃ p, p = ad.getD c 0 := ⟨_, rfl⟩
    have Hp := Lib.hid (show pC ad c = .pointer (some ⟨p, 0, none⟩) by rw [hp]; rfl)
    rw [Hp.out]
    obtain ⟨u, hu⟩ : ∃ u, u = (t.cl c).used := ⟨_, rfl⟩
    have c1 : w3.cell? ⟨p, 1, none⟩ = some (.int .i64 u) := by rw [hp, hu]; exact HA.out.cellC (k := 1) hct rfl
    have f1 : w3.frozen? ⟨p, 1, none⟩ = false := by rw [hp]; exact HA.out.frozenC hct 1
    have hub : u ≤ 4000000000000003000 := by
      have h1 := (hLw.fr.cl c).2.2.2
      have h2 := Hu.out c
      have h3 := HN.out
      rw [hu]; omega
    have hale : a ≤ N := by rw [HN.out]; exact HI.out.le
    have HLw := Lib.hid hLw
    have Hwk := Lib.hid hwk
    have Hup := Lib.hid hu
    have Hpd := Lib.hid hp
    clear hLw hwk hp hu
    go_upto_if 27 with fail
    go_cut [] (fun wx => Hid (SAt wx B S ad vl (bumpS t c)) ∧ Hid (Stp w B S ad vl wx ad vl) ∧ Hid (OwnG wx Q 94 u6 (iN out)))
    case first =>
      rcases Int.lt_or_le u 0 with hu0 | hu0
      · have z1 : decide (0 ≤ u) = false := decide_eq_false (by omega)
        have hb : bumpS t c = t := bumpS_no (by rw [← Hup.out]; omega)
        have Hb := Lib.hid hb
        clear hb
        go_wp2
        go_meet
        case rel =>
          rw [Hb.out]
          exact ⟨HA, PA, HO⟩
      · have z1 : decide (0 ≤ u) = true := decide_eq_true (by omega)
        have hb : bumpS t c = _ := bumpS_yes (s := t) (c := c) (by rw [← Hup.out]; exact hu0)
        have Hb := Lib.hid hb
        obtain ⟨j1, j2⟩ := HA.out.setUsed hct (u + 1)
        rw [← Hpd.out] at j1 j2
        have J1 := Lib.hid j1
        have J2 := Lib.hid (PA.out.trans j2)
        have J3 := Lib.hid (j2.outLo Hlo.out HO.out)
        clear hb j1 j2
        go_wp2
        go_meet
        case rel =>
          rw [Hb.out, ← Hup.out]
          exact ⟨J1, J2, J3⟩
    case rest =>
      obtain ⟨HB1, PB1, OB1⟩ := hcut
      have HLb := Lib.hid (HLw.out.bump c)
      have hLc := Lib.hid HI.out.lc
      obtain ⟨L, hL⟩ : ∃ L, L = (s.cl c).lits := ⟨_, rfl⟩
      have hbl : ((bumpS t c).cl c).lits = L := by rw [hL]; exact (HLb.out.fr.cl c).1
      have hbc : c < (bumpS t c).cls.length := by rw [HLb.out.fr.len]; exact hcs
      have hL2 : 2 ≤ L.length := by rw [hL]; exact (Hl.out c hcs).1
      have hLo : ∀ x ∈ L, okL s.vars x ∧ (s.val x = 2 → nt x ∈ s.trail.take a) := fun x hx => ⟨(Hl.out c hcs).2.2.1 x (hL ▸ hx), HI.out.lc.no x (hL ▸ hx)⟩
      have hFo := HLw.out.fold HT.out Hsh.out Hl.out HI.out.lc HI.out.top he
      have hfs : foldS t c opn out = L.foldl litS (bumpS t c, opn, out) := by unfold foldS; rw [(HLw.out.fr.cl c).1, ← hL]
      rw [hfs] at hFo
      obtain ⟨gl, cl, hli, -, hgl, hcl, hcl2⟩ := (HB1.out.rows (.li c)).form (by simp only [cont, hbl, List.length_map]; omega)
      simp only [cont, List.length_map, hbl] at hli hcl
      have c0 : wc.cell? ⟨p, 0, none⟩ = some (vl (.li c)) := by rw [Hpd.out]; exact HB1.out.cellC (k := 0) hbc rfl
      rw [hli] at c0
      have hcl3 : cl ≤ 9223372036854775807 := by unfold maxLen at hcl2; omega
      obtain ⟨n, hn⟩ : ∃ n, n = L.length := ⟨_, rfl⟩
      rw [← hn] at hli c0 hcl hL2
      have Hli := Lib.hid hli
      have HLo := Lib.hid hLo
      have HFo := Lib.hid hFo
      have Hfs := Lib.hid hfs
      have Hn := Lib.hid hn
      have HL := Lib.hid hL
      have hvs := Hsh.out.sm
      clear hli hLo hFo hfs hn hL hbl hcl2 hgl c1 f1 hub Hup HA PA HO HLw
      go_wp2_with fail
      clear c0
      go_loopw [6, 7, 40] (fun v6 v7 v40 wr => ∃ (j : Nat) (q : St × Nat × List Nat), j ≤ n ∧ v40 = .int .i64 j ∧ v7 = .int .i64 (q.2.1 : Nat) ∧ Hid (q = (L.take j).foldl litS (bumpS t c, opn, out)) ∧ Hid (Lw s q.1 a q.2.1 q.2.2 (k + 1)) ∧ Hid (SAt wr B S ad vl q.1) ∧ Hid (Stp w B S ad vl wr ad vl) ∧ Hid (OwnG wr Q 94 v6 (iN q.2.2))) (fun _ _ v40 _ => n - (intOf v40).toNat)
      case atStart => exact ⟨0, (bumpS t c, opn, out), Nat.zero_le _, rfl, rfl, Lib.hid rfl, HLb, HB1, PB1, OB1⟩
      case round =>
        obtain ⟨w4, hw4⟩ : ∃ w4 : World, w4 = wr := ⟨_, rfl⟩
        rw [← hw4] at hrel ⊢
        clear hw4
        obtain ⟨j, q, hjn, rfl, rfl, Hq, HLq, HQ4, PQ4, OQ4⟩ := hrel
        rcases Nat.lt_or_ge j n with hj | hj
        · obtain ⟨x, hx⟩ : ∃ x, L[j]? = some x := ⟨_, List.getElem?_eq_getElem (by rw [← Hn.out]; exact hj)⟩
          have hxm : x ∈ L := List.mem_of_getElem? hx
          obtain ⟨hxo, hxn⟩ := HLo.out x hxm
          obtain ⟨v, hv⟩ : ∃ v, x / 2 = v := ⟨_, rfl⟩
          have hxs : v ≤ s.vars := by have := hxo.2; omega
          have hq2 : litS q x = (L.take (j + 1)).foldl litS (bumpS t c, opn, out) := by
            have hjl : j < L.length := by rw [← Hn.out]; exact hj
            have e : L[j] = x := by rw [List.getElem?_eq_getElem hjl] at hx; exact Option.some.inj hx
            rw [foldlit_succ hjl, ← Hq.out, e]
          obtain ⟨hL2', -⟩ := HLq.out.lit HT.out Hsh.out hxo hxn
          have hqvars : q.1.vars = s.vars := HLq.out.fr.vars
          have qse : q.1.seen.length = s.vars + 1 := by rw [HLq.out.fr.seen, Hsh.out.se]
          have qle : q.1.level.length = s.vars + 1 := by rw [HLq.out.fr.level, Hsh.out.le]
          have qva : q.1.value.length = 2 * (s.vars + 1) := by rw [HLq.out.fr.value, Hsh.out.va]
          have qac : q.1.act.length = s.vars + 1 := by rw [HLq.out.fr.act, Hsh.out.ac]
          have dj : w4.cell? ⟨gl, j, none⟩ = some (.int .i64 (x : Int)) := HQ4.out.rdLi Hli.out (by rw [(HLq.out.fr.cl c).1, ← HL.out]; exact hx)
          obtain ⟨gs, cs, rse, c14, ds, fs, ns, ls⟩ := HQ4.out.rdSe (v := v) (by omega)
          obtain ⟨ge, ce, rle, c5, de, le_⟩ := HQ4.out.rdLe (x := x) (by omega)
          obtain ⟨gv, cv, rva, c4, dv, lv_⟩ := HQ4.out.rdVa (x := x) (by have := hxo.2; omega)
          obtain ⟨lx, hlx⟩ : ∃ lx, lx = q.1.lv x := ⟨_, rfl⟩
          obtain ⟨vx, hvx⟩ : ∃ vx, vx = q.1.val x := ⟨_, rfl⟩
          obtain ⟨sx, hsx⟩ : ∃ sx, sx = q.1.sn v := ⟨_, rfl⟩
          obtain ⟨M, hM⟩ : ∃ M, M = s.vars + 1 := ⟨_, rfl⟩
          obtain ⟨M2, hM2⟩ : ∃ M2, M2 = 2 * (s.vars + 1) := ⟨_, rfl⟩
          rw [← hM] at qse qle qac
          rw [← hM2] at qva
          rw [qse] at c14 rse ls
          rw [qle] at c5 rle le_
          rw [qva] at c4 rva lv_
          rw [← hlx, hv] at de
          rw [← hvx] at dv
          rw [← hsx] at ds
          have hvM : v < M := by omega
          have hxM : x < M2 := by have := hxo.2; omega
          have Hv := Lib.hid hv
          have Hq2 := Lib.hid hq2
          have HL2 := Lib.hid hL2'
          have Hrse := Lib.hid rse
          have Hlx := Lib.hid hlx
          have Hvx := Lib.hid hvx
          have Hsx := Lib.hid hsx
          have HM := Lib.hid hM
          have Hqs := Lib.hid (And.intro qse qac)
          have hxb : x ≤ 1000000000 := by have := hxo.2; omega
          clear hv hq2 hL2' hqvars qse qle qva qac rse rle rva hlx hvx hsx hM hM2 hx hxm hxn
          by_cases hskip : sx = true ∨ lx = 0 ∨ vx ≠ 2
          · have hls : litS q x = q := litS_skip (by rw [Hv.out, ← Hsx.out, ← Hlx.out, ← Hvx.out]; exact hskip)
            have Hls := Lib.hid hls
            clear hls
            have hsk : sx = true ∨ (sx = false ∧ lx = 0) ∨ (sx = false ∧ lx ≠ 0 ∧ vx ≠ 2) := by
              cases sx
              · rcases hskip with e | e | e
                · cases e
                · exact .inr (.inl ⟨rfl, e⟩)
                · by_cases e2 : lx = 0
                  · exact .inr (.inl ⟨rfl, e2⟩)
                  · exact .inr (.inr ⟨rfl, e2, e⟩)
              · exact .inl rfl
            clear hskip
            rcases hsk with e | ⟨e, e2⟩ | ⟨e, e2, e3⟩
            · rw [e] at ds
              clear e
              go_wp2_with (go_at_call 61; with_reducible refine (variable_is Hv.out _ hxb).mono ?_; rintro e w4 ⟨rfl, rfl⟩)
              go_roundw
              case rel => exact ⟨j + 1, q, by omega, by go_num, rfl, Lib.hid (Hls.out.symm.trans Hq2.out), HLq, HQ4, PQ4, OQ4⟩
              case measure => simp [intOf]; omega
            · rw [e] at ds
              have z2 : ((lx : Int) == 0) = true := by rw [e2]; rfl
              clear e e2
              go_wp2_with (go_at_call 61; with_reducible refine (variable_is Hv.out _ hxb).mono ?_; rintro e w4 ⟨rfl, rfl⟩)
              go_roundw
              case rel => exact ⟨j + 1, q, by omega, by go_num, rfl, Lib.hid (Hls.out.symm.trans Hq2.out), HLq, HQ4, PQ4, OQ4⟩
              case measure => simp [intOf]; omega
            · rw [e] at ds
              have z2 : ((lx : Int) == 0) = false := beq_eq_false_iff_ne.2 (by omega)
              have z3 : ((vx : Int) != 2) = true := bne_iff_ne.2 (by omega)
              clear e e2 e3
              go_wp2_with (go_at_call 61; with_reducible refine (variable_is Hv.out _ hxb).mono ?_; rintro e w4 ⟨rfl, rfl⟩)
              go_roundw
              case rel => exact ⟨j + 1, q, by omega, by go_num, rfl, Lib.hid (Hls.out.symm.trans Hq2.out), HLq, HQ4, PQ4, OQ4⟩
              case measure => simp [intOf]; omega
          · have hg : sx = false ∧ lx ≠ 0 ∧ vx = 2 := by
              refine ⟨?_, fun e => hskip (.inr (.inl e)), ?_⟩
              · cases hb : sx
                · rfl
                · exact (hskip (.inl hb)).elim
              · by_cases e : vx = 2
                · exact e
                · exact (hskip (.inr (.inr e))).elim
            obtain ⟨e1, e2, e3⟩ := hg
            have hls := litS_go (q := q) (x := x) (by rw [Hv.out, ← Hsx.out]; exact e1) (by rw [← Hlx.out]; exact e2) (by rw [← Hvx.out]; exact e3)
            rw [Hv.out, ← Hlx.out] at hls
            have z2 : ((lx : Int) == 0) = false := beq_eq_false_iff_ne.2 (by omega)
            have z3 : ((vx : Int) != 2) = false := by rw [e3]; rfl
            rw [e1] at ds
            obtain ⟨j1, j2⟩ := HQ4.out.setSeen Hrse.out v true
            obtain ⟨T2, hT2⟩ : ∃ T2, T2 = seeS q.1 v true := ⟨_, rfl⟩
            rw [← hT2] at j1 hls
            have Hav := HLq.out.av
            have hmt := meet_any j1 v (by rw [hT2]; show v < q.1.act.length; rw [Hqs.out.2]; exact hvM) (by rw [hT2]; show q.1.act.length ≤ _; rw [Hqs.out.2, HM.out]; omega) (by rw [hT2]; exact Hav.ac) (by rw [hT2]; exact Hav.st)
            have HMt := Lib.hid hmt
            have J2 := Lib.hid (PQ4.out.trans j2)
            have Jst := Lib.hid j2
            have Hls := Lib.hid hls
            have HT2 := Lib.hid hT2
            clear hskip e1 e2 e3 hls j1 j2 Hav hmt hT2
            go_upto_region 12 with (first
              | (go_at_call 61; with_reducible refine (variable_is Hv.out _ hxb).mono ?_; rintro e w4 ⟨rfl, rfl⟩)
              | (go_at_call 63; with_reducible refine HMt.out.mono ?_; rintro e w5 ⟨rfl, h5, p5⟩; (have H5 := Lib.hid h5; have P5 := Lib.hid (J2.out.trans p5); have O5 := Lib.hid ((Jst.out.trans p5).outLo Hlo.out OQ4.out); clear h5 p5)))
            obtain ⟨T3, hT3⟩ : ∃ T3, T3 = meetS T2 v := ⟨_, rfl⟩
            rw [← hT3] at H5 Hls
            have hen : T3.ends.length = s.ends.length := by rw [hT3, (lf_meet T2 v).ends, HT2.out]; show q.1.ends.length = _; rw [HLq.out.fr.ends]
            have hlv3 : T3.lv x = lx := by rw [hT3, (lf_meet T2 v).lv, HT2.out, Hlx.out]; rfl
            have hle3 : T3.level.length = M := by rw [hT3, (lf_meet T2 v).level, HT2.out, HM.out]; show q.1.level.length = _; rw [HLq.out.fr.level, Hsh.out.le]
            have hqe : q.1.ends.length = s.ends.length := by rw [HLq.out.fr.ends]
            have hls := Hls.out
            rw [hqe] at hls
            have Hls2 := Lib.hid hls
            obtain ⟨ge2, ce2, -, b5, be, bl⟩ := H5.out.rdLe (x := x) (by rw [hle3, Hv.out]; exact hvM)
            rw [hle3] at b5 bl
            rw [hlv3, Hv.out] at be
            have HNw := Lib.hid (fun n => now_any (H5.out.new (below_drewN (Below.refl w5.heap.size w5) n)))
            rw [hen] at HNw
            clear c4 c5 c14 dj ds dv de fs hls hen hlv3 hle3 hqe hT3 Hls
            obtain ⟨E, hE⟩ : ∃ E, E = s.ends.length := ⟨_, rfl⟩
            rw [← hE] at HNw
            have HE := Lib.hid hE
            clear hE
            by_cases hlt : lx = E
            · have z4 : ((lx : Int) == (E : Int)) = true := by rw [hlt]; exact beq_self_eq_true _
              have hls3 := Hls2.out
              rw [if_pos (by rw [hlt, HE.out])] at hls3
              have hrel3 := HL2.out
              have hqq := Hq2.out
              rw [hls3] at hrel3 hqq
              have Hqq := Lib.hid hqq
              have Hr3 := Lib.hid hrel3
              have hopb : q.2.1 ≤ 2000000 := by have := HLq.out.opLe; have := HN.out; omega
              clear hlt hls3 hrel3 hqq HL2 Hq2 Hls2
              go_quiet ((go_at_call 51; exact Calls.quiet_of_same (HNw.out _)))
              go_wp2_with fail
              go_roundw
              case rel => exact ⟨j + 1, _, by omega, by go_num, by go_num, Hqq, Hr3, Lib.hid (H5.out.new (below_drewN (Below.refl _ _) _)), Lib.hid (P5.out.trans (H5.out.stpNew (below_drewN (Below.refl _ _) _))), Lib.hid (O5.out.kp fun _ _ => kp_new (below_drewN (Below.refl _ _) _) _)⟩
              case measure => simp [intOf]; omega
            · have z4 : ((lx : Int) == (E : Int)) = false := beq_eq_false_iff_ne.2 (by omega)
              have hls3 := Hls2.out
              rw [if_neg (by rw [← HE.out]; exact hlt)] at hls3
              have hrel3 := HL2.out
              have hqq := Hq2.out
              rw [hls3] at hrel3 hqq
              have Hqq := Lib.hid hqq
              have Hr3 := Lib.hid hrel3
              clear hlt hls3 hrel3 hqq HL2 Hq2 Hls2
              have hlen : q.2.2.length ≤ 2100 := by have := HLq.out.outLen HT.out; omega
              go_quiet ((go_at_call 51; exact Calls.quiet_of_same (HNw.out _)))
              go_upto_region 14 with fail
              obtain ⟨w6, hw6⟩ : ∃ w6, w6 = w5.drewN nq := ⟨_, rfl⟩
              have H6 := Lib.hid (show SAt w6 B S ad vl T3 by rw [hw6]; exact H5.out.new (below_drewN (Below.refl _ _) _))
              have P6 := Lib.hid (show Stp w B S ad vl w6 ad vl by rw [hw6]; exact P5.out.trans (H5.out.stpNew (below_drewN (Below.refl _ _) _)))
              have O6 := Lib.hid (show OwnG w6 Q 94 u6 (iN q.2.2) by rw [hw6]; exact O5.out.kp fun _ _ => kp_new (below_drewN (Below.refl _ _) _) _)
              have hQ6 : Q ≤ w6.heap.size := by rw [HQ.out]; exact P6.out.below.size
              rw [← hw6]
              clear hw6 b5 be bl HNw H5 P5 O5
              go_wp2_with (at_builtin; refine wpList_pushG rfl _ _ _ rfl eLit (v := u6) rfl (O6.out.kp fun _ _ => kp_new (below_alloc _ _) _) w6.heap.size (.int .i64 (x : Int)) rfl (one_new w6 _ _) rfl (by simp; omega) (by simp; omega) ?_; intro v' w7 hown hgr hn; (have B7 := Lib.hid (out_push O6.out hQ6 _ hgr); have O7 := Lib.hid hown; clear hown hgr hn))
              go_roundw
              case rel => exact ⟨j + 1, (T3, q.2.1, q.2.2 ++ [x]), by omega, by go_num, rfl, Hqq, Hr3, Lib.hid (H6.out.keepLo Hlo.out B7.out), Lib.hid (P6.out.outNew (HQ.out ▸ B7.out) H.out.size), by have := O7; simpa [iN] using this⟩
              case measure => simp [intOf]; omega
        · obtain rfl : j = n := by omega
          have hqf : q = L.foldl litS (bumpS t c, opn, out) := by rw [Hq.out, List.take_of_length_le (by rw [← Hn.out]; exact Nat.le_refl _)]
          have hFo := HFo.out
          rw [← hqf] at hFo
          have hDn := hFo.down HT.out HI.out.le
          obtain ⟨d, hd⟩ : ∃ d, d = downS q.1 a := ⟨_, rfl⟩
          rw [← hd] at hDn
          obtain ⟨x, hx⟩ : ∃ x, x = s.trail.getD d 0 := ⟨_, rfl⟩
          rw [← hx] at hDn
          obtain ⟨hGo, hst⟩ := hFo.go HT.out Hsh.out hDn
          have hda := hDn.lt
          have hdN : d < N := by omega
          have qtr : q.1.trail = s.trail := HLq.out.fr.trail
          have HDn := Lib.hid hDn
          have HGo := Lib.hid hGo
          have Hst := Lib.hid hst
          have Hqf := Lib.hid (show foldS t c opn out = q by rw [Hfs.out, hqf])
          have Hd := Lib.hid hd
          have Hx := Lib.hid hx
          have Hqtr := Lib.hid qtr
          clear hqf hFo hDn hGo hst qtr hd hx HFo Hfs Hq
          go_wp2_with fail
          go_loopw [8] (fun v8 wr => ∃ b : Nat, d ≤ b ∧ b < a ∧ v8 = .int .i64 b ∧ Hid (SAt wr B S ad vl q.1) ∧ Hid (Stp w B S ad vl wr ad vl) ∧ Hid (OwnG wr Q 94 u6 (iN q.2.2))) (fun v8 _ => (intOf v8).toNat)
          case atStart => exact ⟨a - 1, by omega, by omega, by rw [show ((a : Int) - 1) = ((a - 1 : Nat) : Int) by omega], HQ4, PQ4, OQ4⟩
          case round =>
            obtain ⟨w5, hw5⟩ : ∃ w5 : World, w5 = wr := ⟨_, rfl⟩
            rw [← hw5] at hrel ⊢
            clear hw5
            obtain ⟨b, hdb, hba, rfl, HS5, PS5, OS5⟩ := hrel
            have hbN : b < N := by omega
            obtain ⟨z, hz⟩ : ∃ z, s.trail[b]? = some z := ⟨_, List.getElem?_eq_getElem (by rw [← HN.out]; exact hbN)⟩
            have hzo := HT.out.ok z (List.mem_of_getElem? hz)
            obtain ⟨v, hv⟩ : ∃ v, z / 2 = v := ⟨_, rfl⟩
            have hvs2 : v ≤ s.vars := by have := hzo.2; omega
            have hzb : z ≤ 1000000000 := by have := hzo.2; omega
            have hqsl : q.1.seen.length = s.vars + 1 := by rw [HLq.out.fr.seen, Hsh.out.se]
            obtain ⟨gt, ct2, -, c10, dt, lt⟩ := HS5.out.rdTr (p := b) (x := z) (by rw [Hqtr.out]; exact hz)
            obtain ⟨gs, cs, rse, c14, ds, fs, ns, ls⟩ := HS5.out.rdSe (v := v) (by omega)
            obtain ⟨M, hM⟩ : ∃ M, M = s.vars + 1 := ⟨_, rfl⟩
            rw [Hqtr.out, ← HN.out] at c10 lt
            rw [hqsl, ← hM] at c14 rse ls
            have hvM : v < M := by omega
            have HVar := Lib.hid (fun w => variable_is hv w hzb)
            by_cases hbd : b = d
            · have hzx : z = x := by
                have := HDn.out.px
                rw [← hbd, hz] at this
                exact Option.some.inj this
              have hsn : q.1.sn v = true := by rw [← hv, hzx]; exact HDn.out.sx
              rw [hsn] at ds
              have Hv := Lib.hid hv
              have Hzx := Lib.hid hzx
              have Hbd := Lib.hid hbd
              have Hrse := Lib.hid rse
              clear hsn hzx hbd hv hz rse hqsl hM
              go_wp2_with fail
              go_quiet ((go_at_call 61; exact Calls.quiet_of_same (HVar.out _)))
              go_wp2_with fail
              obtain ⟨w6, hw6⟩ : ∃ w6, w6 = w5.drewN nq := ⟨_, rfl⟩
              have H6 := Lib.hid (show SAt w6 B S ad vl q.1 by rw [hw6]; exact HS5.out.new (below_drewN (Below.refl _ _) _))
              have P6 := Lib.hid (show Stp w B S ad vl w6 ad vl by rw [hw6]; exact PS5.out.trans (HS5.out.stpNew (below_drewN (Below.refl _ _) _)))
              have O6 := Lib.hid (show OwnG w6 Q 94 u6 (iN q.2.2) by rw [hw6]; exact OS5.out.kp fun _ _ => kp_new (below_drewN (Below.refl _ _) _) _)
              have e14 : w6.cell? ⟨S, 14, none⟩ = some (.slice (some ⟨gs, 0, none⟩) M cs) := by rw [hw6]; simpa using c14
              have es : w6.cell? ⟨gs, v, none⟩ = some (.bool true) := by rw [hw6]; simpa using ds
              have fs6 : w6.frozen? ⟨gs, v, none⟩ = false := by rw [hw6]; simpa using fs
              rw [← hw6]
              obtain ⟨j1, j2⟩ := H6.out.setSeen Hrse.out v false
              have J1 := Lib.hid j1
              have J2 := Lib.hid (P6.out.trans j2)
              have J3 := Lib.hid (j2.outLo Hlo.out O6.out)
              clear hw6 c10 dt c14 ds fs HS5 PS5 OS5 j1 j2
              go_region_held3 (fun w' => w'.cell? ⟨S, 14, none⟩ = some (.slice (some ⟨gs, 0, none⟩) M cs))
                (first | go_keep)
                (first | (go_at_call 61; with_reducible refine (HVar.out _).mono ?_; rintro e w6 ⟨rfl, rfl⟩))
              obtain ⟨T4, hT4⟩ : ∃ T4, T4 = seeS q.1 v false := ⟨_, rfl⟩
              obtain ⟨w7, hw7⟩ : ∃ w7, w7 = (w6.setCell ⟨gs, v, none⟩ (.bool false)).drew := ⟨_, rfl⟩
              have H7 := Lib.hid (show SAt w7 B S ad vl T4 by rw [hw7, hT4]; exact J1.out.new (Below.refl _ _).drew)
              have P7 := Lib.hid (show Stp w B S ad vl w7 ad vl by rw [hw7]; exact J2.out.trans (J1.out.stpNew (Below.refl _ _).drew))
              have O7 := Lib.hid (show OwnG w7 Q 94 u6 (iN q.2.2) by rw [hw7]; exact J3.out.kp fun _ _ => kp_new (Below.refl _ _).drew _)
              have HT4 := Lib.hid hT4
              clear e14 es fs6 J1 J2 J3 H6 P6 O6 hT4
              rw [← hw7]
              clear hw7
              have hpos := HGo.out.pos
              have hopb : q.2.1 ≤ 2000000 := by have := HLq.out.opLe; have := HN.out; omega
              obtain ⟨f', hf'⟩ : ∃ f', f = f' + 1 := ⟨f - 1, by omega⟩
              have hwk0 := walkS_go f' t c opn a out
              rw [← hf'] at hwk0
              have hwk := Hwk.out.trans hwk0
              simp only [Hqf.out] at hwk
              clear hwk0
              rw [← Hd.out, Hqtr.out, ← Hx.out] at hwk
              have hvx : v = x / 2 := by rw [← Hv.out, Hzx.out]
              by_cases hone : q.2.1 = 1
              · have z5 : (((q.2.1 : Nat) : Int) - 1 == 0) = true := by rw [hone]; rfl
                rw [if_pos hone, ← hvx, ← HT4.out] at hwk
                have Hwk2 := Lib.hid hwk
                have hgo := HGo.out
                rw [hone] at hgo
                have hlz := hgo.fin HT.out Hst.out (List.mem_of_getElem? HDn.out.px) HDn.out.top
                rw [← hvx, ← HT4.out] at hlz
                have hlen0 : 1 ≤ q.2.2.length ∧ q.2.2.length ≤ 2100 := by
                  refine ⟨?_, by have := HLq.out.outLen HT.out; omega⟩
                  obtain ⟨tl, t1, -⟩ := HLq.out.hd
                  rw [t1]; simp
                obtain ⟨go, co, hou, hgo1, hgo2, hgo3, hgo4⟩ := O7.out.form (by simp; omega)
                have ho7 := O7.out
                rw [hou] at ho7
                have fo := ho7.frozen 0
                have co0 : w7.cell? ⟨go, 0, none⟩ = some (.int .i64 ((q.2.2.getD 0 0 : Nat) : Int)) := ho7.cell (by rw [List.getElem?_map, List.getElem?_eq_getElem (by omega), List.getD_eq_getElem?_getD, List.getElem?_eq_getElem (by omega)]; rfl)
                have hset := ho7.set 0 (.int .i64 ((nt x : Nat) : Int))
                have hio : (iN q.2.2).set 0 (.int .i64 ((nt x : Nat) : Int)) = iN (q.2.2.set 0 (nt x)) := by simp [List.map_set]
                rw [hio] at hset
                have hb8 : Below Q w7 (w7.setCell ⟨go, 0, none⟩ (.int .i64 ((nt x : Nat) : Int))) := (Below.refl _ _).setCell (p := ⟨go, 0, none⟩) hgo1 _
                obtain ⟨O2, hO2⟩ : ∃ O2, O2 = q.2.2.set 0 (nt x) := ⟨_, rfl⟩
                rw [← hO2] at hset hlz
                have hOl : O2.length = q.2.2.length := by rw [hO2]; simp
                obtain ⟨y, hy⟩ : ∃ y, y = nt x := ⟨_, rfl⟩
                rw [← hy] at hset hb8
                have HNot := Lib.hid (fun w => show Calls Try.prog 60 #[.int .i64 (z : Int)] w fun e w' => e = .returned (.int .i64 (y : Int)) ∧ w' = w by
                  have h9 := not_any z w hzb
                  rw [Hzx.out, ← hy] at h9
                  rw [Hzx.out]
                  exact h9)
                have hll : (iN q.2.2).length = O2.length := by rw [hOl]; simp
                rw [hll] at hou hset hgo3
                have H8 := Lib.hid (H7.out.keepLo Hlo.out hb8)
                have P8 := Lib.hid (P7.out.outNew (HQ.out ▸ hb8) H.out.size)
                have Hlz := Lib.hid hlz
                have Hset := Lib.hid hset
                have HO2 := Lib.hid hO2
                have hOb : 1 ≤ O2.length ∧ O2.length ≤ 2100 := by rw [hOl]; exact hlen0
                rw [← hO2] at Hwk2
                obtain ⟨nO, hnO⟩ : ∃ nO, nO = O2.length := ⟨_, rfl⟩
                rw [← hnO] at hou Hset hgo3 hOb
                have HnO := Lib.hid hnO
                obtain ⟨hOb1, hOb2⟩ := hOb
                subst hou
                clear hwk hgo hlz hlen0 ho7 hset hio hb8 hO2 hOl hy hll hnO hone
                obtain ⟨w8, hw8⟩ : ∃ w8, w8 = w7.setCell ⟨go, 0, none⟩ (.int .i64 ((y : Nat) : Int)) := ⟨_, rfl⟩
                rw [← hw8] at H8 P8 Hset
                have Hw8 := Lib.hid hw8
                have HR2 := Lib.hid (show R = maxS (nO - 1) 0 T4 O2 0 by rw [HR.out]; unfold learnS; rw [Hwk2.out, HnO.out])
                clear hw8 Hwk2
                by_cases hco : co = 1
                · have hnO : nO = 1 := by omega
                  have hres := HR2.out
                  rw [hnO] at hres
                  have Hres := Lib.hid (show R = (T4, O2, 0) from hres)
                  subst hco
                  clear hres hnO
                  go_wp2_with (go_at_call 60; with_reducible refine (HNot.out _).mono ?_; rintro e w7 ⟨rfl, rfl⟩)
                  rw [← Hw8.out]
                  go_loopw [13, 151] (fun v13 v151 wr => v13 = .int .i64 0 ∧ v151 = .int .i64 0 ∧ wr = w8) (fun _ _ _ => 0)
                  case atStart => exact ⟨rfl, rfl, rfl⟩
                  case round =>
                    obtain ⟨rfl, rfl, rfl⟩ := hrel
                    have z9 : decide (0 < nO - 1) = false := decide_eq_false (by omega)
                    have z8 : ¬ (0 < nO - 1) := by omega
                    go_wp2
                    go_ret2
                    rw [Hres.out]
                    exact ⟨_, rfl, Hset.out, H8.out, P8.out⟩
                · obtain ⟨xx, r0, l1, l2, l3, l4, l5, l6⟩ := Hlz.out.start
                  go_wp2_with (go_at_call 60; with_reducible refine (HNot.out _).mono ?_; rintro e w7 ⟨rfl, rfl⟩)
                  rw [← Hw8.out]
                  have hr0l : r0.length = nO - 1 := by have := congrArg List.length l1; rw [← HnO.out] at this; simp at this; omega
                  have hsl : ∀ y ∈ r0, y / 2 < s.seen.length := fun y hy => by
                    have h1 := okL_nt (HT.out.ok _ (l6 y hy).1)
                    rw [nt_nt] at h1
                    have h2 := h1.2
                    rw [Hsh.out.se]; omega
                  have Hl5 := Lib.hid l5
                  have Hl6 := Lib.hid l6
                  have Hsl := Lib.hid hsl
                  have HMx := Lib.hid l2
                  have Hr0 := Lib.hid hr0l
                  clear l1 l2 l3 l4 l5 l6 hsl hr0l
                  go_loopw [13, 151] (fun v13 v151 wr => ∃ (i : Nat) (T : St) (O : List Nat) (lv : Nat), i ≤ nO - 1 ∧ v151 = .int .i64 i ∧ v13 = .int .i64 lv ∧ Hid (R = maxS (nO - 1 - i) i T O lv) ∧ Hid (Mx s T (nt xx) r0 i O lv (k + 1)) ∧ Hid (SAt wr B S ad vl T) ∧ Hid (Stp w B S ad vl wr ad vl) ∧ Hid (OwnG wr Q 94 (.slice (some ⟨go, 0, none⟩) nO co) (iN O))) (fun _ v151 _ => nO - 1 - (intOf v151).toNat)
                  case atStart => exact ⟨0, T4, O2, 0, Nat.zero_le _, rfl, rfl, HR2, HMx, H8, P8, Hset⟩
                  case round =>
                    obtain ⟨w9, hw9⟩ : ∃ w9 : World, w9 = wr := ⟨_, rfl⟩
                    rw [← hw9] at hrel ⊢
                    clear hw9
                    obtain ⟨i, T, O, lv, hin, rfl, rfl, HRi, HMi, HS9, PS9, OS9⟩ := hrel
                    have hOl : O.length = nO := by rw [HMi.out.len, Hr0.out]; omega
                    rcases Nat.lt_or_ge i (nO - 1) with hi | hi
                    · obtain ⟨x', hx'⟩ : ∃ x', O.getD (i + 1) 0 = x' := ⟨_, rfl⟩
                      have hxr : x' ∈ r0 := by rw [← hx', HMi.out.at_]; exact getD_mem (by rw [Hr0.out]; exact hi)
                      have hxo' : okL s.vars x' := by
                        have h1 := okL_nt (HT.out.ok _ (Hl6.out x' hxr).1)
                        rw [nt_nt] at h1; exact h1
                      obtain ⟨v', hv'⟩ : ∃ v', x' / 2 = v' := ⟨_, rfl⟩
                      have hvs' : v' ≤ s.vars := by have := hxo'.2; omega
                      have hxb' : x' ≤ 1000000000 := by have := hxo'.2; omega
                      have di : w9.cell? ⟨go, 1 + i, none⟩ = some (.int .i64 (x' : Int)) := OS9.out.cell (by rw [List.getElem?_map, List.getElem?_eq_getElem (by omega)]; rw [← hx', List.getD_eq_getElem?_getD, show i + 1 = 1 + i by omega, List.getElem?_eq_getElem (by omega)]; rfl)
                      have tse : T.seen.length = s.vars + 1 := by rw [HMi.out.fr.seen, Hsh.out.se]
                      have tle : T.level.length = s.vars + 1 := by rw [HMi.out.fr.level, Hsh.out.le]
                      obtain ⟨gs', cs', rse', c14', ds', fs', ns', ls'⟩ := HS9.out.rdSe (v := v') (by omega)
                      obtain ⟨lx, hlx⟩ : ∃ lx, T.lv x' = lx := ⟨_, rfl⟩
                      obtain ⟨M', hM'⟩ : ∃ M', M' = s.vars + 1 := ⟨_, rfl⟩
                      rw [tse, ← hM'] at c14' rse' ls'
                      have hvM' : v' < M' := by omega
                      obtain ⟨j1, j2⟩ := HS9.out.setSeen rse' v' false
                      have hms := HMi.out.step Hl5.out Hsl.out (by rw [Hr0.out]; exact hi)
                      have hRn := maxS_at HRi.out hi
                      have HVar' := Lib.hid (fun w => variable_is hv' w hxb')
                      have J1 := Lib.hid j1
                      have J2 := Lib.hid (PS9.out.trans j2)
                      have J3 := Lib.hid (j2.outLo Hlo.out OS9.out)
                      have Hms := Lib.hid hms
                      have HRn := Lib.hid hRn
                      have Hx' := Lib.hid hx'
                      have Hv' := Lib.hid hv'
                      have Hlx := Lib.hid hlx
                      have Htle := Lib.hid (tle.trans hM'.symm)
                      clear hx' hxr hxo' hv' tse tle hlx hM' rse' j1 j2 hms hRn
                      go_upto_region 29 with fail
                      go_region_held3 (fun w' => w'.cell? ⟨S, 14, none⟩ = some (.slice (some ⟨gs', 0, none⟩) M' cs'))
                        (first | go_keep)
                        (first | (go_at_call 61; with_reducible refine (HVar'.out _).mono ?_; rintro e w9 ⟨rfl, rfl⟩))
                      obtain ⟨T5, hT5⟩ : ∃ T5, T5 = seeS T v' false := ⟨_, rfl⟩
                      obtain ⟨wa, hwa⟩ : ∃ wa, wa = (w9.setCell ⟨gs', v', none⟩ (.bool false)).drew := ⟨_, rfl⟩
                      have Ha := Lib.hid (show SAt wa B S ad vl T5 by rw [hwa, hT5]; exact J1.out.new (Below.refl _ _).drew)
                      have Pa := Lib.hid (show Stp w B S ad vl wa ad vl by rw [hwa]; exact J2.out.trans (J1.out.stpNew (Below.refl _ _).drew))
                      have Oa := Lib.hid (show OwnG wa Q 94 (.slice (some ⟨go, 0, none⟩) nO co) (iN O) by rw [hwa]; exact J3.out.kp fun _ _ => kp_new (Below.refl _ _).drew _)
                      have HT5 := Lib.hid (show T5 = seeS T (x' / 2) false by rw [hT5, Hv'.out])
                      have hl5 : T5.lv x' = lx := by rw [hT5, ← Hlx.out]; rfl
                      have hle5 : T5.level.length = M' := by rw [hT5, ← Htle.out]; rfl
                      obtain ⟨ge', ce', -, c5', de', le5⟩ := Ha.out.rdLe (x := x') (by rw [hle5, Hv'.out]; exact hvM')
                      rw [hle5] at c5' le5
                      rw [hl5, Hv'.out] at de'
                      clear di c14' ds' fs' J1 J2 J3 HS9 PS9 OS9 hT5 hl5 hle5
                      rw [← hwa]
                      clear hwa
                      go_wp2_with fail
                      go_quiet ((go_at_call 61; exact Calls.quiet_of_same (HVar'.out _)))
                      go_upto_region 31 with fail
                      obtain ⟨wb, hwb⟩ : ∃ wb, wb = wa.drewN nq := ⟨_, rfl⟩
                      have Hb := Lib.hid (show SAt wb B S ad vl T5 by rw [hwb]; exact Ha.out.new (below_drewN (Below.refl _ _) _))
                      have Pb := Lib.hid (show Stp w B S ad vl wb ad vl by rw [hwb]; exact Pa.out.trans (Ha.out.stpNew (below_drewN (Below.refl _ _) _)))
                      have Ob := Lib.hid (show OwnG wb Q 94 (.slice (some ⟨go, 0, none⟩) nO co) (iN O) by rw [hwb]; exact Oa.out.kp fun _ _ => kp_new (below_drewN (Below.refl _ _) _) _)
                      rw [← hwb]
                      clear hwb c5' de' Ha Pa Oa
                      by_cases hgt : lv < lx
                      · have z7 : decide (lv < lx) = true := decide_eq_true hgt
                        have hmx := mxS_yes Hx'.out Hlx.out hgt
                        have hms := Hms.out
                        have hRn := HRn.out
                        rw [hmx, ← HT5.out] at hms hRn
                        have Hms2 := Lib.hid hms
                        have HRn2 := Lib.hid hRn
                        obtain ⟨y1, hy1⟩ : ∃ y1, O.getD 1 0 = y1 := ⟨_, rfl⟩
                        have d1 : wb.cell? ⟨go, 1, none⟩ = some (.int .i64 (y1 : Int)) := Ob.out.cell (by rw [List.getElem?_map, List.getElem?_eq_getElem (by omega)]; rw [← hy1, List.getD_eq_getElem?_getD, List.getElem?_eq_getElem (by omega)]; rfl)
                        have di : wb.cell? ⟨go, i + 1, none⟩ = some (.int .i64 (x' : Int)) := Ob.out.cell (by rw [List.getElem?_map, List.getElem?_eq_getElem (by omega)]; rw [← Hx'.out, List.getD_eq_getElem?_getD, List.getElem?_eq_getElem (by omega)]; rfl)
                        have fo9 := Ob.out.frozen
                        have hsw := Ob.out.swap (i := 1) (j := i + 1) hy1 Hx'.out
                        obtain ⟨ve, hve⟩ := cell?_setCell_some (w := wb) (p := ⟨go, 1, none⟩) (x := .int .i64 (x' : Int)) (q := ⟨go, i + 1, none⟩) (v := .int .i64 (x' : Int)) di
                        have Hsw := Lib.hid hsw
                        have hgob : Q ≤ go := (Ob.out.lt go rfl).1
                        have hb9 : Below Q wb ((wb.setCell ⟨go, 1, none⟩ (.int .i64 (x' : Int))).setCell ⟨go, i + 1, none⟩ (.int .i64 (y1 : Int))).drew := (((Below.refl _ _).setCell (p := ⟨go, 1, none⟩) hgob _).setCell (p := ⟨go, i + 1, none⟩) hgob _).drew
                        have Hb9 := Lib.hid hb9
                        have hin1 : (i : Int) + 1 < (nO : Int) := by omega
                        have h0i : (0 : Int) ≤ (i : Int) + 1 := by omega
                        have h1O : (1 : Int) < (nO : Int) := by omega
                        clear hmx hms hRn hgt Hms HRn hy1 hsw hb9
                        go_upto_region 33 with fail
                        go_region
                        obtain ⟨wc2, hwc2⟩ : ∃ wc2, wc2 = ((wb.setCell ⟨go, 1, none⟩ (.int .i64 (x' : Int))).setCell ⟨go, i + 1, none⟩ (.int .i64 (y1 : Int))).drew := ⟨_, rfl⟩
                        have Hc := Lib.hid (show SAt wc2 B S ad vl T5 by rw [hwc2]; exact Hb.out.keepLo Hlo.out Hb9.out)
                        have Pc := Lib.hid (show Stp w B S ad vl wc2 ad vl by rw [hwc2]; exact Pb.out.outNew (HQ.out ▸ Hb9.out) H.out.size)
                        have Oc := Lib.hid (show OwnG wc2 Q 94 (.slice (some ⟨go, 0, none⟩) nO co) (iN (swp O 1 (i + 1))) by rw [hwc2]; exact Hsw.out.kp fun _ _ => kp_new (Below.refl _ _).drew _)
                        rw [← hwc2]
                        clear hwc2 d1 di fo9 hve Hb Pb Ob
                        go_wp2_with fail
                        go_roundw
                        case rel => exact ⟨i + 1, T5, swp O 1 (i + 1), lx, by omega, by go_num, rfl, HRn2, Hms2, Hc, Pc, Oc⟩
                        case measure => simp [intOf]; omega
                      · have z7 : decide (lv < lx) = false := decide_eq_false hgt
                        have hmx := mxS_no Hx'.out Hlx.out hgt
                        have hms := Hms.out
                        have hRn := HRn.out
                        rw [hmx, ← HT5.out] at hms hRn
                        have Hms2 := Lib.hid hms
                        have HRn2 := Lib.hid hRn
                        clear hmx hms hRn hgt Hms HRn
                        go_wp2_with fail
                        go_roundw
                        case rel => exact ⟨i + 1, T5, O, lv, by omega, by go_num, rfl, HRn2, Hms2, Hb, Pb, Ob⟩
                        case measure => simp [intOf]; omega
                    · obtain rfl : i = nO - 1 := by omega
                      have hres := HRi.out
                      rw [Nat.sub_self] at hres
                      have Hres := Lib.hid (show R = (T, O, lv) from hres)
                      clear hres
                      go_wp2
                      go_ret2
                      rw [Hres.out]
                      exact ⟨_, rfl, OS9.out, HS9.out, PS9.out⟩
              · have z5 : (((q.2.1 : Nat) : Int) - 1 == 0) = false := beq_eq_false_iff_ne.2 (by omega)
                rw [if_neg hone] at hwk
                obtain ⟨c', r1, r2, r3⟩ := HGo.out.next HT.out Hl.out hone HDn.out.px HDn.out.top he
                have r1' : q.1.reason.getD (x / 2) none = some c' := by rw [HLq.out.fr.reason]; exact r1
                rw [r1', ← hvx, ← HT4.out] at hwk
                simp only at hwk
                have hLw4 := HGo.out.lw
                rw [← hvx, ← HT4.out] at hLw4 r2 r3
                have HI4 := Lib.hid (show LwI U D s T4 c0 c' (q.2.1 - 1) d q.2.2 from ⟨⟨k + 1, f', hLw4, by omega, by omega, hwk⟩, r2, .inl r3, by have := HN.out; omega⟩)
                have hT4r : T4.reason = s.reason := by rw [HT4.out]; exact HLq.out.fr.reason
                obtain ⟨gr, cr, -, c6, dr, lr⟩ := H7.out.rdRe (v := v) (by rw [hT4r, Hsh.out.re]; omega)
                rw [hT4r, hvx, r1] at dr
                rw [hT4r, Hsh.out.re] at c6 lr
                rw [← hvx] at dr
                obtain ⟨p', hp'⟩ : ∃ p', p' = ad.getD c' 0 := ⟨_, rfl⟩
                have hoc : oC ad (some c') = .pointer (some ⟨p', 0, none⟩) := by rw [hp']; rfl
                rw [hoc] at dr
                have Hp' := Lib.hid (show pC ad c' = .pointer (some ⟨p', 0, none⟩) by rw [hp']; rfl)
                obtain ⟨M', hM'⟩ : ∃ M', M' = s.vars + 1 := ⟨_, rfl⟩
                rw [← hM'] at c6 lr
                have hvM' : v < M' := by omega
                have hdb' : (d : Int) = (b : Int) := by rw [Hbd.out]
                have Hdb := Lib.hid hdb'
                clear hwk r1 r1' r2 r3 hLw4 hT4r hp' hoc hM' hone hvx hdb'
                go_wp2_with fail
                go_quiet ((go_at_call 61; exact Calls.quiet_of_same (HVar.out _)))
                go_wp2_with fail
                go_roundw
                case rel => exact ⟨T4, c', q.2.1 - 1, d, q.2.2, Hp'.out.symm, by rw [show (((q.2.1 : Nat) : Int) - 1) = ((q.2.1 - 1 : Nat) : Int) by omega], by rw [Hdb.out], HI4, Lib.hid (H7.out.new (below_drewN (Below.refl _ _) _)), Lib.hid (P7.out.trans (H7.out.stpNew (below_drewN (Below.refl _ _) _))), Lib.hid (O7.out.kp fun _ _ => kp_new (below_drewN (Below.refl _ _) _) _)⟩
                case measure => simp [intOf]; omega
            · have hsn : q.1.sn v = false := by rw [← hv]; exact HDn.out.no b z (by omega) hba hz
              rw [hsn] at ds
              clear hsn hv hz rse hqsl hM
              go_wp2_with fail
              go_quiet ((go_at_call 61; exact Calls.quiet_of_same (HVar.out _)))
              go_wp2_with fail
              go_roundw
              case rel => exact ⟨b - 1, by omega, by omega, by rw [show ((b : Int) - 1) = ((b - 1 : Nat) : Int) by omega], Lib.hid (HS5.out.new (below_drewN (Below.refl _ _) _)), Lib.hid (PS5.out.trans (HS5.out.stpNew (below_drewN (Below.refl _ _) _))), Lib.hid (OS5.out.kp fun _ _ => kp_new (below_drewN (Below.refl _ _) _) _)⟩
              case measure => simp [intOf]; omega
end Go.Proofs.Ytcebafeaikipmaa.S15
