/- walk: from a node on. -/
import Derived.Test.YtjmenkjmghmkpaaGrF0
import Derived.Test.YtjmenkjmghmkpaaGrF2
import Derived.Deep.LoopGhost
namespace Go.Proofs.Ytjmenkjmghmkpaa
open Go.RowKit
open G22

/-- What holds at each turn of the walk that began at s0. -/
structure Wi (G : Gr) (s0 : St) (a : Nat) (s : St) : Prop where
  tj : Tj G s
  cnt : s.count + unmet s G.length ≤ G.length
  met : s.M a ≠ 0
  mono : ∀ x, s0.M x ≠ 0 → s.M x ≠ 0
theorem unmet_congr {s s' : St} (h : s'.met = s.met) (n : Nat) : unmet s' n = unmet s n := by unfold unmet St.M; rw [h]
theorem Wi.of_met {G : Gr} {s0 s s' : St} {a : Nat} (h : Wi G s0 a s) (ht : Tj G s') (hm : s'.met = s.met) (hc : s'.count = s.count) : Wi G s0 a s' :=
  ⟨ht, by rw [unmet_congr hm, hc]; exact h.cnt, by unfold St.M; rw [hm]; exact h.met, fun x hx => by unfold St.M; rw [hm]; exact h.mono x hx⟩
theorem enter_M {G : Gr} {s : St} (h : Tj G s) {k : Nat} (hk : k < G.length) (b : Nat) : (enterS s k).M b = if b = k then s.count + 1 else s.M b := getD_set (by rw [h.lmet]; exact hk)
theorem Wi.enter {G : Gr} {s0 s : St} {a k : Nat} (h : Wi G s0 a s) (hk : k < G.length) (hm : s.M k = 0) {s' : St} (ht : Tj G s') (he : s'.met = (enterS s k).met) (hc : s'.count = s.count + 1) : Wi G s0 a s' := by
  have hM : ∀ b, s'.M b = if b = k then s.count + 1 else s.M b := fun b => by unfold St.M; rw [he]; exact enter_M h.tj hk b
  refine ⟨ht, ?_, ?_, fun x hx => ?_⟩
  · rw [unmet_congr he, hc]
    have := unmet_enter h.tj hk hm
    have := h.cnt
    omega
  · rw [hM]; split; omega; exact h.met
  · rw [hM]; split; omega; exact h.mono x hx
theorem Tj.last_le {G : Gr} {s : St} (h : Tj G s) : s.last ≤ G.length := by
  obtain ⟨l, hl, hp⟩ := choose_list (n := s.last) (p := fun c x => x < G.length ∧ s.K x = c) fun c hc => by
    obtain ⟨x, hx, hk⟩ := h.used c hc
    exact ⟨x, hx.1, hk⟩
  have hm : l.map s.K = List.range s.last := by
    refine List.ext_getElem (by simp [hl]) fun i h1 h2 => ?_
    rw [List.getElem_map, List.getElem_range]
    exact (hp i (by simpa using h1)).2
  have hd : l.Nodup := List.Pairwise.of_map (S := (· ≠ ·)) s.K (fun a b hab e => hab (by rw [e])) (by rw [hm]; exact List.nodup_range)
  have := nodup_le hd fun x hx => by
    obtain ⟨i, hi, rfl⟩ := List.getElem_of_mem hx
    exact (hp i hi).1
  omega
def WalkPost (G : Gr) (B F bm bl bx bi bg base N : Nat) (gv : Value) (s : St) (a : Nat) (w : World) (e : Ending) (w' : World) : Prop :=
  ∃ vo vw s', e = .returned (.tuple #[]) ∧ Wi G s a s' ∧ s'.way = [] ∧ FinAt w' F bm bl bx bi bg base N gv vo vw s' ∧ Below B w w'
set_option maxRecDepth 100000 in
set_option maxHeartbeats 4000000 in
theorem walk_any (hent : EnterSaid) (G : Gr) (B F bm bl bx bi bg base : Nat) (vo vw : Value) (Ag : Option Addr) (cg : Nat) (s : St) (a : Nat) (w : World) (h : FinAt w F bm bl bx bi bg base G.length (.slice Ag G.length cg) vo vw s) (hB : From B F bm bl bx bi bg base)
    (hg : RNatss w (Lt B) (.slice Ag G.length cg) G) (hG : okG G) (hN : G.length ≤ 100000) (hr : ∀ a, (row G a).length ≤ 100000) (ht : Tj G s) (hc : s.count + unmet s G.length ≤ G.length) (hw : s.way = []) (ha : a < G.length) (hm : s.M a = 0) :
    Calls Try.prog 37 #[.pointer (some ⟨F, 0, none⟩), .int .i64 (a : Int)] w (WalkPost G B F bm bl bx bi bg base G.length (.slice Ag G.length cg) s a w) := by
  have He := Lib.hid (hent B F bm bl bx bi bg base G.length (.slice Ag G.length cg) vo vw s a w h hB ht.lmet ht.llow ht.linn ha (by omega) (by omega) ht.open_le ht.way_le)
  have hte := ht.enter ha hm (fun p t e => by rw [hw] at e; simp at e)
  have HW := Lib.hid (show Wi G s a (enterS s a) from ⟨hte, by have := unmet_enter ht ha hm; show s.count + 1 + _ ≤ _; omega, by rw [enter_M ht ha, if_pos rfl]; omega, fun x hx => by rw [enter_M ht ha]; split; omega; exact hx⟩)
  have Hg := Lib.hid hg
  have HB := Lib.hid hB
  have HG := Lib.hid hG
  have Hr := Lib.hid hr
  clear h hB hg hG hr ht hc hw hte hm
  go_enter Try.func37, Try.ntmps37
  go_step3
  go_wp2_with (go_at_call 38; refine He.out.mono ?_; rintro e w1 ⟨vo1, vw1, rfl, hf1, hb1⟩)
  go_step3
  have HF1 := Lib.hid hf1
  have HB1 := Lib.hid hb1
  clear hf1 hb1 He
  go_wp2
  go_loopg [] (2 * remS G (enterS s a) + (enterS s a).way.length) (fun gk wr => ∃ (s1 : St) (vo vw : Value), Hid (Wi G s a s1 ∧ gk = 2 * remS G s1 + s1.way.length) ∧ Hid (FinAt wr F bm bl bx bi bg base G.length (.slice Ag G.length cg) vo vw s1) ∧ Hid (Below B w wr))
  case atStart => exact ⟨_, vo1, vw1, ⟨HW.out, rfl⟩, HF1.out, HB1.out⟩
  case round =>
    obtain ⟨w2, rfl⟩ : ∃ w0 : World, w0 = wr := ⟨_, rfl⟩
    obtain ⟨s1, vo2, vw2, HI, HF, HB2⟩ := hrel
    obtain ⟨Aw, cw, rfl⟩ := own_shape HF.out.ow
    have hwl := HI.out.1.tj.way_le
    have c6 : w2.cell? ⟨F, 6, none⟩ = some (.slice Aw s1.way.length cw) := HF.out.st.cell (i := 6) rfl
    rcases List.eq_nil_or_concat s1.way with e | ⟨p, n, e⟩
    · have hz : ¬ 0 < s1.way.length := by rw [e]; simp
      have He := Lib.hid e
      clear e HF1 HB1 HW
      go_wp2
      try rw [Exit.noGoto_ret]
      go_end0
      exact ⟨_, _, s1, rfl, HI.out.1, He.out, HF.out.of_heap rfl, HB2.out⟩
    · rw [List.concat_eq_append] at e
      have hz : 0 < s1.way.length := by rw [e]; simp
      have hpl : s1.way.length = p.length + 1 := by rw [e]; simp
      have how := HF.out.ow
      rw [hpl, e] at how
      rw [hpl] at c6 hwl
      obtain ⟨gw, cz, e1, _, _⟩ := own_block how (by omega)
      cases e1
      have hcn := own_last how
      have Hway := Lib.hid e
      have hnw : n ∈ s1.way := by rw [e]; simp
      have hn : n < G.length := HI.out.1.tj.olt n (HI.out.1.tj.wlt hnw)
      have Hpl := Lib.hid hpl
      clear e hpl how hnw HF1 HB1 HW hz
      go_wp2
      go_quiet (fail)
      go_wp2
      have HF3 := Lib.hid (HF.out.drewN nq)
      have HB3 := Lib.hid (below_drewN HB2.out nq)
      have Hgk := Lib.hid HI.out.2
      have HI3 := Lib.hid HI.out.1
      clear HF HB2 c6 hcn HI hwl
      generalize w2.drewN nq = w3 at *
      go_loopg [] (remS G s1) (fun gk2 wr => ∃ (s2 : St) (vo vw : Value), Hid (Wi G s a s2 ∧ s2.way = p ++ [n] ∧ gk2 = remS G s2 ∧ remS G s2 ≤ remS G s1) ∧ Hid (FinAt wr F bm bl bx bi bg base G.length (.slice Ag G.length cg) vo vw s2) ∧ Hid (Below B w wr))
      case atStart => exact ⟨s1, vo2, _, ⟨HI3.out, Hway.out, rfl, Nat.le_refl _⟩, HF3.out, HB3.out⟩
      case round =>
        obtain ⟨w4, rfl⟩ : ∃ w0 : World, w0 = wr := ⟨_, rfl⟩
        obtain ⟨s2, vo4, vw4, HI4, HF4, HB4⟩ := hrel
        have ht4 := HI4.out.1.tj
        have hnw : n ∈ s2.way := by rw [HI4.out.2.1]; simp
        have hno : n ∈ s2.opn := ht4.wlt hnw
        obtain ⟨Ag', cg', eg, hmg, hatg⟩ := (RNatss.stable.below Hg.out HB4.out).open_
        cases eg
        obtain ⟨br, or, ur, rfl, hbr, hcr, hur⟩ := hatg.lt_ hn
        obtain ⟨Ar, cr, rfl, hmr, hatr⟩ := hur.open_
        have c0 : w4.cell? ⟨F, 0, none⟩ = some (.slice (some ⟨br, or, none⟩) G.length cg) := HF4.out.st.cell (i := 0) rfl
        have c1 : w4.cell? ⟨F, 1, none⟩ = some (.slice (some ⟨bm, 0, none⟩) G.length G.length) := HF4.out.st.cell (i := 1) rfl
        have c3 : w4.cell? ⟨F, 3, none⟩ = some (.slice (some ⟨bx, 0, none⟩) G.length G.length) := HF4.out.st.cell (i := 3) rfl
        have hcx := HF4.out.nxt.nat (i := n) (by rw [ht4.lnxt]; exact hn)
        have hfx := HF4.out.nxt.frozen n
        have hxl : gN s2.nxt n ≤ (row G n).length := ht4.nle n
        rw [row_at hn] at hxl
        have hrl : G[n].length ≤ 100000 := by have := Hr.out n; rwa [row_at hn] at this
        have Hatr := Lib.hid hatr
        have hFbx : F ≠ bx := HF4.out.ne.2.2.1
        have hbmx : bm ≠ bx := HF4.out.ne.2.2.2.2.2.2.1
        clear hatr hatg hur hmg hbr
        by_cases hx : gN s2.nxt n < G[n].length
        · obtain ⟨b6, o6, u6, rfl, _, hc6, hu6⟩ := Hatr.out.lt_ hx
          obtain rfl := hu6
          unfold natV at hc6
          have Hk := Lib.hid (show (row G n)[s2.X n]? = some (G[n][gN s2.nxt n]) by rw [row_at hn]; exact List.getElem?_eq_getElem hx)
          have hed : G22.Edge G n (G[n][gN s2.nxt n]) := by unfold G22.Edge; rw [row_at hn]; exact List.getElem_mem hx
          have hk : G[n][gN s2.nxt n] < G.length := HG.out n _ hed
          have Hed := Lib.hid hed
          have HF5 := Lib.hid (show FinAt (w4.setCell ⟨bx, n, none⟩ (.int .i64 ((gN s2.nxt n + 1 : Nat) : Int))) F bm bl bx bi bg base G.length (.slice (some ⟨br, or, none⟩) G.length cg) vo4 vw4 (edgeS s2 n) from HF4.out.setNxt n (gN s2.nxt n + 1))
          have HB5 := Lib.hid (HB4.out.setCell (p := ⟨bx, n, none⟩) HB.out.2.2.2.1 (.int .i64 ((gN s2.nxt n + 1 : Nat) : Int)))
          have hcast : ((gN s2.nxt n + 1 : Nat) : Int) = (gN s2.nxt n : Int) + 1 := by omega
          rw [hcast] at HF5 HB5
          have Hrm := Lib.hid (rem_edge ht4 hn (by rw [row_at hn]; exact hx))
          obtain ⟨k, hkk⟩ : ∃ k, k = G[n][gN s2.nxt n] := ⟨_, rfl⟩
          rw [← hkk] at hc6 Hk hk Hed
          clear hed hcast hkk
          have hcm := HF4.out.met.nat (i := k) (by rw [ht4.lmet]; exact hk)
          have Hx := Lib.hid hx
          obtain ⟨x, hxx⟩ : ∃ x, x = gN s2.nxt n := ⟨_, rfl⟩
          rw [← hxx] at hcx hxl hx hc6 HF5 HB5
          clear hxx
          by_cases hm0 : s2.M k = 0
          · have hbb : ((gN s2.met k : Int) == 0) = true := by rw [show gN s2.met k = s2.M k from rfl, hm0]; rfl
            have hk2 : k ≠ n := fun e => by have := (ht4.omet n hno).1; rw [← e] at this; omega
            have Hent := Lib.hid (fun q => hent B F bm bl bx bi bg base G.length (.slice (some ⟨br, or, none⟩) G.length cg) vo4 vw4 (edgeS s2 n) k ((w4.drewN q).setCell ⟨bx, n, none⟩ (.int .i64 ((x : Int) + 1))) (HF5.out.of_heap rfl) HB.out ht4.lmet ht4.llow ht4.linn hk (by omega) (by have := HI4.out.1.cnt; show s2.count ≤ _; omega) ht4.open_le ht4.way_le)
            have hLn : s2.L n ≤ s2.M n ∧ s2.M n ≤ s2.count := ⟨(ht4.low n hno).1, (ht4.omet n hno).2⟩
            have htj : Tj G (enterS (edgeS s2 n) k) := by
              have h1 := ht4.enter hk hm0 (fun p' t e => by
                have e2 : t = n := by
                  have h2 := HI4.out.2.1
                  rw [e] at h2
                  have := (List.append_inj' h2 rfl).2
                  simpa using this
                rw [e2]; exact Hed.out.reach)
              exact h1.edge_ (t := n) (y := k) (by show n ∈ s2.way ++ [k]; simp [hnw]) Hk.out (by rw [enter_M ht4 hk, if_pos rfl]; omega) (fun _ => by
                rw [enter_M ht4 hk, if_pos rfl]
                show (enterS s2 k).L n ≤ _
                rw [show (enterS s2 k).L n = s2.L n from by
                  have : (enterS s2 k).L n = if n = k then s2.count + 1 else s2.L n := getD_set (by rw [ht4.llow]; exact hk)
                  rw [this, if_neg (fun e => hk2 e.symm)]]
                omega)
            have HWn := Lib.hid (HI4.out.1.enter hk hm0 htj rfl rfl)
            have Hms := Lib.hid (show 2 * remS G (enterS (edgeS s2 n) k) + (enterS (edgeS s2 n) k).way.length < 2 * remS G s1 + s1.way.length by
              have h1 : remS G (enterS (edgeS s2 n) k) = remS G (edgeS s2 n) := rfl
              have h2 : (enterS (edgeS s2 n) k).way.length = s2.way.length + 1 := by show (s2.way ++ [k]).length = _; simp
              have h3 := Hrm.out
              have h4 := HI4.out.2.2.2
              have h5 : s2.way.length = p.length + 1 := by rw [HI4.out.2.1]; simp
              have h6 := Hpl.out
              omega)
            have HBq := Lib.hid (fun q => show Below B w ((w4.drewN q).setCell ⟨bx, n, none⟩ (.int .i64 ((x : Int) + 1))) from below_heap HB5.out rfl rfl rfl rfl)
            clear htj hLn hk2 ht4 hnw hno hm0
            go_wp2
            go_quiet (fail)
            go_wp2
            go_quiet (fail)
            go_wp2_with (go_at_call 38; refine (Hent.out _).mono ?_; rintro e w6 ⟨vo6, vw6, rfl, hf6, hb6⟩)
            go_roundg (2 * remS G (enterS (edgeS s2 n) k) + (enterS (edgeS s2 n) k).way.length)
            case rel => exact ⟨_, vo6, vw6, ⟨HWn.out, rfl⟩, hf6, (HBq.out _).trans hb6⟩
            case measure => have h1 := Hms.out; have h2 := Hgk.out; omega
          · have hbb : ((gN s2.met k : Int) == 0) = false := by
              have : gN s2.met k ≠ 0 := hm0
              simp; omega
            have c2 : w4.cell? ⟨F, 2, none⟩ = some (.slice (some ⟨bl, 0, none⟩) G.length G.length) := HF4.out.st.cell (i := 2) rfl
            have c4 : w4.cell? ⟨F, 4, none⟩ = some (.slice (some ⟨bi, 0, none⟩) G.length G.length) := HF4.out.st.cell (i := 4) rfl
            have hci := HF4.out.inn.bool (i := k) (by rw [ht4.linn]; exact hk)
            obtain ⟨n1, n2, n3, n4, n5, n6, n7, n8, n9, n10, n11, n12, n13, n14, n15⟩ := HF4.out.ne
            cases hin : s2.inn.getD k false with
            | false =>
              rw [hin] at hci
              have hko : k ∉ s2.opn := fun h => by have := (ht4.inn k).2 h; rw [show gB s2.inn k = s2.inn.getD k false from rfl, hin] at this; cases this
              have htj := ht4.edge_ hnw Hk.out hm0 (fun h => absurd h hko)
              have HWn := Lib.hid (HI4.out.1.of_met htj rfl rfl)
              have Hms := Lib.hid (show remS G (edgeS s2 n) < remS G s2 from Hrm.out)
              clear htj hko hin ht4 hnw hno hm0 n1 n2 n4 n5 n6 n8 n9 n11 n12 n14 n15
              go_wp2
              go_quiet (fail)
              go_wp2
              go_quiet (fail)
              go_wp2
              go_roundg (remS G (edgeS s2 n))
              case rel => exact ⟨edgeS s2 n, _, _, ⟨HWn.out, HI4.out.2.1, rfl, by have := Hms.out; have := HI4.out.2.2.2; omega⟩, HF5.out.of_heap rfl, below_heap HB5.out rfl rfl rfl rfl⟩
              case measure => have h1 := Hms.out; have h2 := HI4.out.2.2.1; omega
            | true =>
              rw [hin] at hci
              have hko : k ∈ s2.opn := (ht4.inn k).1 hin
              have hcl := HF4.out.low.nat (i := n) (by rw [ht4.llow]; exact hn)
              have hfl := HF4.out.low.frozen n
              have htl := ht4.low_ hnw hko Hed.out.reach
              have hLn : (lowS s2 n (s2.M k)).L n = min (s2.L n) (s2.M k) := by
                have : (lowS s2 n (s2.M k)).L n = if n = n then min (s2.L n) (s2.M k) else s2.L n := getD_set (by rw [ht4.llow]; exact hn)
                rw [this, if_pos rfl]
              have htj := htl.edge_ (t := n) (y := k) hnw Hk.out hm0 (fun _ => by rw [hLn]; exact Nat.min_le_right _ _)
              have HWn := Lib.hid (HI4.out.1.of_met htj rfl rfl)
              have Hms := Lib.hid (show remS G (edgeS (lowS s2 n (s2.M k)) n) < remS G s2 from Hrm.out)
              have HF6 := Lib.hid (show FinAt _ F bm bl bx bi bg base G.length (.slice (some ⟨br, or, none⟩) G.length cg) vo4 vw4 (edgeS (lowS s2 n (s2.M k)) n) from HF5.out.setLow n (min (gN s2.low n) (gN s2.met k)))
              have HB6 := Lib.hid (HB5.out.setCell (p := ⟨bl, n, none⟩) HB.out.2.2.1 (.int .i64 ((min (gN s2.low n) (gN s2.met k) : Nat) : Int)))
              have hLb : gN s2.low n ≤ 1000000 := by have h1 := (ht4.low n hno).1; have h2 := (ht4.omet n hno).2; have h3 := HI4.out.1.cnt; show s2.L n ≤ _; omega
              have hMb : gN s2.met k ≤ 1000000 := by have h2 := (ht4.omet k hko).2; have h3 := HI4.out.1.cnt; show s2.M k ≤ _; omega
              clear htj htl hLn hko hin ht4 hnw hno hm0 n1 n3 n4 n5 n7 n8 n9 n11 n12 n14 n15
              by_cases hxy : gN s2.met k < gN s2.low n
              · have hm2 : ((min (gN s2.low n) (gN s2.met k) : Nat) : Int) = (gN s2.met k : Int) := by rw [Nat.min_eq_right (Nat.le_of_lt hxy)]
                rw [hm2] at HF6 HB6
                clear hm2
                go_wp2
                go_quiet (fail)
                go_wp2
                go_quiet (fail)
                go_wp2
                go_region
                all_goals
                  go_wp2
                  go_roundg (remS G (edgeS (lowS s2 n (s2.M k)) n))
                  case rel => exact ⟨edgeS (lowS s2 n (s2.M k)) n, _, _, ⟨HWn.out, HI4.out.2.1, rfl, by have := Hms.out; have := HI4.out.2.2.2; omega⟩, HF6.out.of_heap rfl, below_heap HB6.out rfl rfl rfl rfl⟩
                  case measure => have h1 := Hms.out; have h2 := HI4.out.2.2.1; omega
              · have hm2 : ((min (gN s2.low n) (gN s2.met k) : Nat) : Int) = (gN s2.low n : Int) := by rw [Nat.min_eq_left (by omega)]
                rw [hm2] at HF6 HB6
                clear hm2
                go_wp2
                go_quiet (fail)
                go_wp2
                go_quiet (fail)
                go_wp2
                go_region
                all_goals
                  go_wp2
                  go_roundg (remS G (edgeS (lowS s2 n (s2.M k)) n))
                  case rel => exact ⟨edgeS (lowS s2 n (s2.M k)) n, _, _, ⟨HWn.out, HI4.out.2.1, rfl, by have := Hms.out; have := HI4.out.2.2.2; omega⟩, HF6.out.of_heap rfl, below_heap HB6.out rfl rfl rfl rfl⟩
                  case measure => have h1 := Hms.out; have h2 := HI4.out.2.2.1; omega
        · have hX : s2.X n = (row G n).length := by
            rw [row_at hn]
            have h1 : s2.X n = gN s2.nxt n := rfl
            omega
          have hMle : ∀ y, y ∈ s2.opn → s2.M y ≤ 1000000 := fun y hy => by have h2 := (ht4.omet y hy).2; have h3 := HI4.out.1.cnt; omega
          have Hlv := Lib.hid (fun q => leave_any B F bm bl bx bi bg base G.length (.slice (some ⟨br, or, none⟩) G.length cg) vo4 vw4 s2 p n (w4.drewN q) (HF4.out.drewN q) HB.out ht4.lmet ht4.llow ht4.linn ht4.lgrp hn (by omega) HI4.out.2.1 (fun y hy => ht4.olt y (ht4.wlt (by rw [HI4.out.2.1]; simp [hy]))) hno ht4.olt ht4.open_le ht4.way_le (hMle n hno) (fun y hy => Nat.le_trans (ht4.low y (ht4.wlt hy)).1 (hMle y (ht4.wlt hy))) (Tj.last_le ht4))
          have Htl := Lib.hid (fun s' (hl : LeaveTo s2 p n s') => ht4.leave HI4.out.2.1 hX hl)
          have Hms := Lib.hid (show ∀ s', LeaveTo s2 p n s' → 2 * remS G s' + s'.way.length < 2 * remS G s1 + s1.way.length from fun s' hl => by
            obtain ⟨_, h2, _, h4⟩ := hl.same
            have h5 : remS G s' = remS G s2 := by unfold remS St.X; rw [h2]
            have h6 := HI4.out.2.2.2
            have h7 := Hpl.out
            rw [h4, h5]
            omega)
          clear hX hMle ht4 hnw hno
          go_wp2
          go_quiet (fail)
          go_wp2_with (go_at_call 39; refine (Hlv.out _).mono ?_; rintro e w6 ⟨vo6, vw6, s6, rfl, hl6, hf6, hb6⟩)
          go_roundg (2 * remS G s6 + s6.way.length)
          case rel =>
            obtain ⟨h1, _, h3, _⟩ := hl6.same
            exact ⟨s6, vo6, vw6, ⟨HI4.out.1.of_met (Htl.out s6 hl6) h1 h3, rfl⟩, hf6, (below_drewN HB4.out _).trans hb6⟩
          case measure => have h1 := Hms.out s6 hl6; have h2 := Hgk.out; omega
end Go.Proofs.Ytjmenkjmghmkpaa
