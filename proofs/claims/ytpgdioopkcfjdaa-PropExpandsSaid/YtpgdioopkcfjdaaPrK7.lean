/- PropExpands: the law, walked. -/
import Derived.Test.YtpgdioopkcfjdaaPrK5
import Derived.Test.YtpgdioopkcfjdaaPrR4
namespace Go.Proofs.Ytpgdioopkcfjdaa
open Go.RowKit

theorem RefAt.again {w w' : World} {B X : Nat} {lv dv ov : Value} {L done : PL} {bad : Int} {nm : Bs} {way : List Bs} (h : RefAt w B X lv L dv done bad nm ov way) (hp : RProps w' (Lt B) lv L) {D : Nat → Prop} (hc : Ch D w w') (hD : ∀ k, D k → k < B) : RefAt w' B X lv L dv done bad nm ov way :=
  ⟨(hc.kp fun e => by have := hD _ e; have := h.lo; omega).at_ h.hX, hp, own_kp h.done fun g hg => hc.kp fun e => by have := hD _ e; have := (h.done.lt g hg).1; omega, own_kp h.own fun g hg => hc.kp fun e => by have := hD _ e; have := (h.own.lt g hg).1; omega, h.lo⟩
theorem TabAt.lt {w : World} {B T R Dn : Nat} {lv : Value} {L U done : PL} (h : TabAt w B T R Dn lv L U done) : ∀ k, ChT T Dn k → k < w.heap.size := by
  rintro k (e | e)
  · subst e; exact (Array.getElem?_eq_some_iff.1 h.hT).1
  · subst e; obtain ⟨es, c, h2⟩ := h.dn.obj; exact (Array.getElem?_eq_some_iff.1 h2).1
theorem quiet_add_leftP {P : Program} {f : FuncId} {args : Array Value} {w : World} {a n : Nat} {v : Value}
    (h : Calls P f args (w.drewN (a + n)) fun e w' => e = .returned v ∧ w.drewN (a + n) = w') :
    Calls P f args (w.drewN (a + n)) fun e w'' => e = .returned v ∧ ∃ m, w'' = w.drewN (a + m) :=
  h.mono fun _ _ ⟨he, hm⟩ => ⟨he, n, hm.symm⟩
theorem quiet_leftP {P : Program} {f : FuncId} {args : Array Value} {w : World} {n : Nat} {v : Value}
    (h : Calls P f args (w.drewN n) fun e w' => e = .returned v ∧ w.drewN n = w') : Calls P f args (w.drewN n) fun e w'' => e = .returned v ∧ ∃ m, w'' = w.drewN m :=
  h.mono fun _ _ ⟨he, hm⟩ => ⟨he, n, hm.symm⟩
theorem exp_doneOK {L D : PL} {s : Bs} (h : DoneOK L D) : DoneOK L (expP L D s).2 := txtP_doneOK (fun _ h => by cases h) h
theorem box_ref (w : World) (lv : Value) (L : PL) {B0 : Nat} (hp : RProps w (Lt B0) lv L) (hB : B0 ≤ w.heap.size) : RefAt (w.alloc (.cells #[lv, .slice none 0 0, .int .i64 0, .string ⟨#[]⟩, .int .i64 0, .slice none 0 0] 30)) w.heap.size w.heap.size lv L (.slice none 0 0) [] 0 [] (.slice none 0 0) [] :=
  ⟨heap_alloc_new _ _, RProps.stable.sub (RProps.stable.agree hp (ag_of_below ((below_alloc w _).mono hB))) (fun _ hb => Nat.lt_of_lt_of_le hb hB), POwn.nil _ _, ⟨rfl, .inl ⟨rfl, rfl⟩⟩, Nat.le_refl _⟩
set_option maxRecDepth 100000 in
set_option maxHeartbeats 16000000 in
theorem walk_PropExpands (m : Int) (W : World) (hm : MaxAt m W) (v0 v1 : Value) (a0 : Arg Try.prog W 22 v0) (a1 : Arg Try.prog W 23 v1) : Calls Try.prog 3 #[v0, v1] W fun e W' => e = .returned (.bool true) ∧ Below W.heap.size W W' := by
  obtain ⟨L0, r0⟩ := arg_props a0
  obtain ⟨S, r1⟩ := arg_txts a1
  obtain ⟨AS, cS, rfl, hmS, hatS⟩ := r1.open_
  clear a0 a1 r1
  have HC := Lib.hid (fun s w => lawcutL_any s w)
  have hl := fewP_length L0
  have HL := Lib.hid (show ∀ p ∈ fewP L0, p.2.length ≤ 1000000 from fun p hp => by have := (fewP_ok L0 p hp).2; omega)
  have F0 := Lib.hid (few_any v0 L0 W r0)
  have HatS := Lib.hid hatS
  generalize fewP L0 = L at F0 hl HL
  have HM := Lib.hid hm
  have hpos := hm.lt
  clear hm r0 hatS
  obtain ⟨x0, hx0⟩ : ∃ x0, x0 = v0 := ⟨_, rfl⟩
  rw [← hx0] at F0 ⊢
  clear hx0
  go_enter Try.func3, Try.ntmps3
  go_wp2_with (first
    | (go_at_call 11; (with_reducible refine F0.out.mono ?_); rintro e w1 ⟨u1, rfl, h1, h2⟩; obtain ⟨A1, c1, rfl⟩ := h1.shape; (have HL1 := Lib.hid (props_of_own (S := Lt w1.heap.size) h1 fun g hg => (h1.lt g hg).2); have HB1 := Lib.hid h2; clear h1 h2))
    | (go_at_call 12; (with_reducible refine (New_any _ L w1 HL1.out (by omega)).mono ?_); rintro e w2 ⟨T, R, Dn, tv, rfl, h1, h2⟩; (have T2 := Lib.hid h1; have HB2 := Lib.hid h2; clear h1 h2)))
  have HR3 := Lib.hid (box_ref w2 (.slice A1 L.length c1) L (RProps.stable.agree HL1.out (ag_of_below HB2.out)) HB2.out.size)
  obtain ⟨w3, hw3⟩ : ∃ w3, w3 = w2.alloc (.cells #[.slice A1 L.length c1, .slice none 0 0, .int .i64 0, .string ⟨#[]⟩, .int .i64 0, .slice none 0 0] 30) := ⟨_, rfl⟩
  have hb3 : Below w2.heap.size w2 w3 := by rw [hw3]; exact below_alloc _ _
  rw [← hw3] at HR3 ⊢
  have T3 := Lib.hid (T2.out.new hb3)
  have HB3 := Lib.hid (HB2.out.trans (hb3.mono HB2.out.size))
  obtain ⟨X, hX⟩ : ∃ X, X = w2.heap.size := ⟨_, rfl⟩
  have HXe := Lib.hid hX
  rw [← hX] at HR3 ⊢
  have Hp := Lib.hid (Nat.lt_of_lt_of_le hpos HB1.out.size)
  clear hb3 hw3 hX
  go_loopw [24] (fun kv wr => ∃ (k : Nat) (D : PL) (dv : Value) (bad : Int) (nm : Bs) (ov : Value) (way : List Bs), k ≤ S.length ∧ kv = .int .i64 k ∧ Hid (TabAt wr w1.heap.size T R Dn tv L (uniqP L) D) ∧ Hid (RefAt wr X X (.slice A1 L.length c1) L dv D bad nm ov way) ∧ Hid (DoneOK L D) ∧ Hid (Below w1.heap.size w1 wr)) (fun kv _ => S.length - (intOf kv).toNat)
  case atStart => exact ⟨0, [], _, _, _, _, _, Nat.zero_le _, rfl, T3, HR3, Lib.hid (doneOK_nil L), HB3⟩
  case round =>
    obtain ⟨k, D, dv, bad, nm, ov, way, hkle, rfl, HT, HR, HD, HB⟩ := hrel
    rcases Nat.lt_or_ge k S.length with hk | hk
    · obtain ⟨bS, oS, rfl, hbS, hcS⟩ := (HatS.out.agree RTx.stable (ag_of_below (HB1.out.trans (HB.out.mono HB1.out.size))) (fun _ h => h)) (by omega)
      obtain ⟨uS, y0, hu⟩ := hcS k hk
      obtain rfl := hu
      clear hcS
      rcases Nat.lt_or_ge k 20 with h6 | h6
      · have d6 : decide ((20 : Int) ≤ ((k : Nat) : Int)) = false := by rw [decide_eq_false_iff_not]; omega
        have hsl := cut1_len S[k]
        obtain ⟨E, hE⟩ : ∃ E, E = expP L D (cut1 S[k]) := ⟨_, rfl⟩
        have HDE := Lib.hid (exp_doneOK (s := cut1 S[k]) HD.out)
        have HX1 := Lib.hid (fun w hm ht => Expand_any (m := m) (B := w1.heap.size) (T := T) (R := R) (Dn := Dn) (lv := tv) (L := L) (U := uniqP L) (done := D) Hp.out HL.out (cut1 S[k]) w hm ht (by omega))
        have HX2 := Lib.hid (fun w dv ov bad nm way hr => refExpand_any (B := X) (X := X) (lv := .slice A1 L.length c1) HL.out (by omega) D (cut1 S[k]) w dv ov bad nm way hr HD.out (by omega))
        rw [← hE] at HDE HX1 HX2
        clear hE
        have HMr := Lib.hid ((HM.out.below HB1.out hpos).below HB.out Hp.out)
        go_wp2_with (first
          | (go_at_call 14; (with_reducible refine (HC.out S[k] _).mono ?_); rintro e wc ⟨rfl, hwc⟩; (have hwc := hwc.symm; subst hwc))
          | (go_at_call 13; (with_reducible refine (HX1.out _ HMr.out HT.out).mono ?_); rintro e w5 ⟨rfl, h1, h2⟩; (have HT5 := Lib.hid h1; have HB5 := Lib.hid (HB.out.trans (h2.below (B := w1.heap.size) (chT_lo HT.out) HB.out.size)); have HR5 := Lib.hid (HR.out.again (RProps.stable.sub (RProps.stable.agree HL1.out (ag_of_below HB5.out)) fun _ hb => Nat.lt_of_lt_of_le hb (by rw [HXe.out]; exact HB2.out.size)) h2 (fun k hk => by rw [HXe.out]; exact T2.out.lt k hk)); clear h1 h2))
          | (go_at_call 15; (with_reducible refine (HX2.out _ _ _ _ _ _ HR5.out).mono ?_); rintro e w6 ⟨rfl, ⟨dv6, bad6, nm6, ov6, way6, h1⟩, h2⟩; obtain ⟨A6, c6, rfl⟩ := h1.done.shape; (have HR6 := Lib.hid h1; have HT6 := Lib.hid (HT5.out.kp_lt T2.out (ch_below h2) (fun k hk => by rw [← HXe.out]; exact hk)); have HB6 := Lib.hid (HB5.out.trans (h2.mono (by rw [HXe.out]; exact HB2.out.size))); clear h1 h2)))
        have s1 : ((bz (okOf E.1)).toList == (bz (okOf E.1)).toList) = true := by rw [bz_beq]; exact beq_self_eq_true _
        have s2 : ((bz (nmOf E.1)).toList == (bz (nmOf E.1)).toList) = true := by rw [bz_beq]; exact beq_self_eq_true _
        have hdl := done_len HDE.out
        have hw : wrap64 ((E.2.length : Nat) : Int) = ((E.2.length : Nat) : Int) := by unfold wrap64; omega
        have k6 := HR6.out.cells.2.1
        have HKn := Lib.hid (fun n => (Known_any (w6.drewN n) (HT6.out.new (below_drewN (Below.refl _ _) n))).mono fun e w' (h : _ ∧ w' = _) => And.intro h.1 h.2.symm)
        rw [hw] at HKn
        go_quiet ((go_at_call 16; first | exact quiet_add_leftP (HKn.out _) | exact quiet_leftP (HKn.out _)))
        go_wp2
        go_roundw
        case rel => exact ⟨k + 1, E.2, _, _, _, _, _, by omega, by go_num, Lib.hid (HT6.out.new (below_drewN (Below.refl _ _) _)), Lib.hid (HR6.out.new (below_drewN (Below.refl _ _) _)), HDE, Lib.hid (below_drewN HB6.out _)⟩
        case measure => simp [intOf]; omega
      · have d6 : decide ((20 : Int) ≤ ((k : Nat) : Int)) = true := by rw [decide_eq_true_iff]; omega
        have HBW := Lib.hid (HB1.out.trans (HB.out.mono HB1.out.size))
        go_wp2_with (go_at_call 17; (with_reducible refine (lives_any (m := m) wr (HM.out.below HBW.out hpos)).mono ?_); rintro e w9 ⟨rfl, h1⟩; (have HZ := Lib.hid (HBW.out.trans (h1.mono HBW.out.size)); clear h1))
        go_ret
        exact ⟨rfl, HZ.out⟩
    · obtain rfl : k = S.length := by omega
      have HBW := Lib.hid (HB1.out.trans (HB.out.mono HB1.out.size))
      go_wp2_with (go_at_call 17; (with_reducible refine (lives_any (m := m) wr (HM.out.below HBW.out hpos)).mono ?_); rintro e w9 ⟨rfl, h1⟩; (have HZ := Lib.hid (HBW.out.trans (h1.mono HBW.out.size)); clear h1))
      go_ret
      exact ⟨rfl, HZ.out⟩
end Go.Proofs.Ytpgdioopkcfjdaa
