/- work.text, given what work.value does: the walk. -/
import Derived.Test.YtpgdioopkcfjdaaPrX2
namespace Go.Proofs.Ytpgdioopkcfjdaa
open Go.RowKit

theorem Ch.cellK {D : Nat → Prop} {w w' : World} (h : Ch D w w') {k o : Nat} (hk : ¬ D k) (hlt : k < w.heap.size) : w'.cell? ⟨k, o, none⟩ = w.cell? ⟨k, o, none⟩ := World.cell?_of_block (h.block k hlt hk)
section
variable {w0 w w' : World} {B T R Dn : Nat} {lv : Value} {L U : PL} {Wk : Nat} {wv0 wv : Value} {way : List Bs} {me : Bs} {b q : Nat} {done done' : PL} {acc acc' s : Bs}
theorem TxtAt.new (h : TxtAt w0 w B T R Dn lv L U Wk wv0 wv way me b q done acc) (hb : Below w.heap.size w w') : TxtAt w0 w' B T R Dn lv L U Wk wv0 wv way me b q done acc :=
  ⟨h.ch.belowR (hb.mono h.size), h.tab.new hb, h.wk.new hb, h.nw, h.bld.kp fun _ _ _ _ => kp_new hb _, (kp_new hb _).at_ h.box, h.nq, h.acc, h.q0, h.lo0, h.wok⟩
theorem TxtAt.draw (h : TxtAt w0 w B T R Dn lv L U Wk wv0 wv way me b q done acc) (n : Nat) : TxtAt w0 (w.drewN n) B T R Dn lv L U Wk wv0 wv way me b q done acc := h.new (below_drewN (Below.refl _ _) n)
theorem TxtAt.call_ok (h : TxtAt w0 w B T R Dn lv L U Wk wv0 wv way me b q done acc) (hs : s.length ≤ 1000000) (hl : ¬ 4096 < (acc ++ s).length) :
    Calls Try.prog 42 #[sv s, .pointer (some ⟨b, 0, none⟩), .pointer (some ⟨q, 0, none⟩)] w fun e w' => e = .returned (.tuple #[]) ∧ TxtAt w0 w' B T R Dn lv L U Wk wv0 wv way me b q done (acc ++ s) := by
  have := h.acc
  refine (put_any w0.heap.size b q acc me s w h.bld h.size h.box (by omega) hs).mono fun e w' ⟨h1, h2, h3, h4⟩ => ?_
  rw [if_neg hl] at h1
  exact ⟨h1, h.put h2 h3 h4 (by omega)⟩
theorem TxtAt.call_big (h : TxtAt w0 w B T R Dn lv L U Wk wv0 wv way me b q done acc) (hs : s.length ≤ 1000000) (hl : 4096 < (acc ++ s).length) :
    Calls Try.prog 42 #[sv s, .pointer (some ⟨b, 0, none⟩), .pointer (some ⟨q, 0, none⟩)] w fun e w' => e = .panicked (flt 2 me) ∧ Ch (ChgV T Dn Wk wv0) w0 w' ∧ TabAt w' B T R Dn lv L U done := by
  have := h.acc
  refine (put_any w0.heap.size b q acc me s w h.bld h.size h.box (by omega) hs).mono fun e w' ⟨h1, h2, h3, h4⟩ => ?_
  rw [if_pos hl] at h1
  obtain ⟨cb, hcb⟩ := h.bld.obj
  exact ⟨h1, h.ch.belowR h3, h.tab.others h4 hcb⟩
theorem TxtAt.call_end (h : TxtAt w0 w B T R Dn lv L U Wk wv0 wv way me b q done acc) :
    Calls Try.prog 45 #[.pointer (some ⟨b, 0, none⟩)] w fun e w' => e = .returned (sv acc) ∧ Ch (ChgV T Dn Wk wv0) w0 w' ∧ TabAt w' B T R Dn lv L U done ∧ WkAt w' B Wk T wv way := by
  obtain ⟨cb, hcb⟩ := h.bld.obj
  exact (String_k w0.heap.size b acc w h.bld h.size).mono fun e w' ⟨h1, h3, h4⟩ => ⟨h1, h.ch.belowR h3, h.tab.others h4 hcb, h.wk.others h4 hcb⟩
theorem TxtAt.cells (h : TxtAt w0 w B T R Dn lv L U Wk wv0 wv way me b q done acc) : w.cell? ⟨Wk, 0, none⟩ = some (.pointer (some ⟨T, 0, none⟩)) ∧ w.cell? ⟨T, 1, none⟩ = some (.map (some R)) :=
  ⟨cell_of_row _ _ _ _ _ (0, 0) h.wk.hW, cell_of_row _ _ _ _ _ (0, 0) h.tab.hT⟩
theorem TxtAt.max {m : Int} (h : TxtAt w0 w B T R Dn lv L U Wk wv0 wv way me b q done acc) (hm : MaxAt m w0) (hB : 0 < B) : MaxAt m w := by
  have h0 := hm.lt
  exact (h.ch.cellK (fun e => by have := chgv_lo h.tab h.wk h.lo0 _ e; omega) h0).trans hm
theorem TxtAt.val_ok {m : Int} {d : Nat} {n v : Bs} {dn : PL} (h : TxtAt w0 w B T R Dn lv L U Wk wv0 wv way me b q done acc) (hv : ValOK m B T R Dn lv L U d) (hm : MaxAt m w) (hwd : way.length + d = 32) (hlk : (lookP L n).isSome = true) (hn : n.length ≤ 1000000) (hval : valP L d way done n = (.ok v, dn)) :
    Calls Try.prog 37 #[.pointer (some ⟨Wk, 0, none⟩), sv n] w fun e w' => e = .returned (sv v) ∧ v.length ≤ 1000000 ∧ ∃ wv', TxtAt w0 w' B T R Dn lv L U Wk wv0 wv' way me b q dn acc := by
  refine (hv way done n w Wk wv hm hwd hlk h.wok h.tab h.wk hn).mono fun e w' ho => ?_
  rw [hval] at ho
  obtain ⟨h1, h2, he, hl, wv', h3, h4⟩ := ho
  have hk := valP_way (L := L) d way done n h.wok
  rw [hval] at hk
  exact ⟨he, by omega, wv', h.value h1 h2 h3 h4 hk⟩
theorem TxtAt.val_loop {m : Int} {d : Nat} {n n2 : Bs} {dn : PL} (h : TxtAt w0 w B T R Dn lv L U Wk wv0 wv way me b q done acc) (hv : ValOK m B T R Dn lv L U d) (hm : MaxAt m w) (hwd : way.length + d = 32) (hlk : (lookP L n).isSome = true) (hn : n.length ≤ 1000000) (hval : valP L d way done n = (.loop n2, dn)) :
    Calls Try.prog 37 #[.pointer (some ⟨Wk, 0, none⟩), sv n] w fun e w' => e = .panicked (flt 22 n2) ∧ Ch (ChgV T Dn Wk wv0) w0 w' ∧ TabAt w' B T R Dn lv L U dn := by
  refine (hv way done n w Wk wv hm hwd hlk h.wok h.tab h.wk hn).mono fun e w' ho => ?_
  rw [hval] at ho
  obtain ⟨h1, h2, he⟩ := ho
  exact ⟨he, h.ch.valueR h1 h.nw, h2⟩
theorem TxtAt.val_big {m : Int} {d : Nat} {n n2 : Bs} {dn : PL} (h : TxtAt w0 w B T R Dn lv L U Wk wv0 wv way me b q done acc) (hv : ValOK m B T R Dn lv L U d) (hm : MaxAt m w) (hwd : way.length + d = 32) (hlk : (lookP L n).isSome = true) (hn : n.length ≤ 1000000) (hval : valP L d way done n = (.big n2, dn)) :
    Calls Try.prog 37 #[.pointer (some ⟨Wk, 0, none⟩), sv n] w fun e w' => e = .panicked (flt 2 n2) ∧ Ch (ChgV T Dn Wk wv0) w0 w' ∧ TabAt w' B T R Dn lv L U dn := by
  refine (hv way done n w Wk wv hm hwd hlk h.wok h.tab h.wk hn).mono fun e w' ho => ?_
  rw [hval] at ho
  obtain ⟨h1, h2, he⟩ := ho
  exact ⟨he, h.ch.valueR h1 h.nw, h2⟩
theorem TxtAt.start (ht : TabAt w B T R Dn lv L U done) (hw : WkAt w B Wk T wv way) (hk : WayOK way done) (me : Bs) :
    TxtAt w ((w.alloc (.cells #[sv me] 9)).alloc (.cells #[.pointer none, .slice none 0 0] 82)) B T R Dn lv L U Wk wv wv way me (w.heap.size + 1) w.heap.size done [] := by
  have hb : Below w.heap.size w ((w.alloc (.cells #[sv me] 9)).alloc (.cells #[.pointer none, .slice none 0 0] 82)) := (below_alloc _ _).alloc (by simp) _
  refine ⟨ch_new hb _, ht.new hb, hw.new hb, .refl _ _, ?_, (Below.heap_alloc _ _ _ (by simp)).trans (heap_alloc_new w _), ?_, by simp, Nat.le_refl _, fun g hg => (hw.own.lt g hg).1, hk⟩
  · refine .inl ⟨by omega, .slice none 0 0, ?_, ⟨rfl, .inl ⟨rfl, rfl⟩⟩, by simp [Value.ownBlock]⟩
    have := heap_alloc_new (w.alloc (.cells #[sv me] 9)) (.cells #[.pointer none, .slice none 0 0] 82)
    rwa [World.size_alloc] at this
  · intro e
    have := (hw.own.lt _ e).2
    omega
end
theorem callFunc_put : ∀ (args : Array Value) (w : World), (callFunc 42 args).run Try.prog w = .ok (.enter 42 args) w := callFunc_run Try.func42 (by kernel_rfl) (by kernel_rfl)
theorem concat1 (n : Bs) (h : n.length ≤ 1000000) (w : World) : (Op.stringOp .add ⟨#[36, 123]⟩ (bz n)).run Try.prog w = .ok (sv (36 :: 123 :: n)) w :=
  (run_string_add_sum (P := Try.prog) (w := w) ⟨#[36, 123]⟩ (bz n) (by rw [bz_size]; show 2 + _ ≤ _; omega)).trans (by rw [show (⟨#[36, 123]⟩ : ByteArray) = bz [36, 123] from rfl, bz_append]; rfl)
theorem concat2 (n : Bs) (h : n.length ≤ 1000000) (w : World) : (Op.stringOp .add (bz (36 :: 123 :: n)) ⟨#[125]⟩).run Try.prog w = .ok (sv (36 :: 123 :: (n ++ [125]))) w :=
  (run_string_add_sum (P := Try.prog) (w := w) (bz (36 :: 123 :: n)) ⟨#[125]⟩ (by rw [bz_size]; show _ + 1 ≤ _; simp; omega)).trans (by rw [show (⟨#[125]⟩ : ByteArray) = bz [125] from rfl, bz_append]; rfl)
set_option maxHeartbeats 4000000 in
theorem text_any {m : Int} {B T R Dn : Nat} {lv : Value} {L U : PL} {d : Nat} (hB : 0 < B) (hv : ValOK m B T R Dn lv L U d) (way : List Bs) (done : PL) (s me : Bs) (w : World) (Wk : Nat) (wv : Value) (hm : MaxAt m w) (hwd : way.length + d = 32)
    (ht : TabAt w B T R Dn lv L U done) (hw : WkAt w B Wk T wv way) (hk : WayOK way done) (hs : s.length ≤ 1000000) :
    Calls Try.prog 31 #[.pointer (some ⟨Wk, 0, none⟩), sv s, sv me] w (Out B T R Dn lv L U Wk wv way w (txtP (fun done m => valP L d way done m) L me done [] s)) := by
  have hmf : ∀ (fn : Fn) (first cap : Array Value) (w : World), (Instr.makeFunc fn first cap).run Try.prog w = .ok (.func fn first cap) w := fun _ _ _ _ => rfl
  have hcf := callFunc_put
  have TX := Lib.hid (TxtAt.start ht hw hk me)
  have HV := Lib.hid hv
  have HM := Lib.hid hm
  have HW := Lib.hid hwd
  clear ht hw hv hm hwd hk
  obtain ⟨X, hX⟩ : ∃ X, X = txtP (fun done m => valP L d way done m) L me done [] s := ⟨_, rfl⟩
  rw [← hX]
  have HX := Lib.hid hX
  clear hX
  obtain ⟨q, hq⟩ : ∃ q, q = w.heap.size := ⟨_, rfl⟩
  have Hq := Lib.hid hq
  go_enter Try.func31, Try.ntmps31
  go_wp2
  rw [← hq] at TX ⊢
  clear hq
  go_loopw [1] (fun s1 wr => ∃ (acc : Bs) (done' : PL) (s' : Bs) (wvr : Value), s1 = sv s' ∧ s'.length ≤ 1000000 ∧ Hid (TxtAt w wr B T R Dn lv L U Wk wv wvr way me (q + 1) q done' acc) ∧ Hid (X = txtP (fun done m => valP L d way done m) L me done' acc s')) (fun s1 _ => strLen s1)
  case atStart => exact ⟨[], done, s, wv, rfl, hs, TX, HX⟩
  case round =>
    clear TX HX hs
    obtain ⟨acc, done', s', wvr, rfl, hs', TX, HX⟩ := hrel
    have Hc := Lib.hid (cut_any s' m wr hs' (TX.out.max HM.out hB))
    cases hc : cutP s' with
    | none =>
      rw [hc] at Hc
      have HX := Lib.hid (HX.out.trans (txtP_none hc))
      clear hc
      by_cases hg : 4096 < (acc ++ s').length
      · have HX := Lib.hid (HX.out.trans (if_pos hg))
        have Hg := Lib.hid hg
        clear hg
        go_wp2_with (first
          | (go_at_call 35; with_reducible refine Hc.out.mono ?_; rintro e w1 ⟨rfl, nd, rfl⟩; dsimp only [cutV])
          | (go_at_call 42; with_reducible refine ((TX.out.draw nd).call_big hs' Hg.out).mono ?_; rintro e w2 ⟨rfl, h1, h2⟩; (have H1 := Lib.hid h1; have H2 := Lib.hid h2; clear h1 h2)))
        exact ⟨rfl, by rw [HX.out]; exact ⟨H1.out, H2.out, rfl⟩⟩
      · have HX := Lib.hid (HX.out.trans (if_neg hg))
        have Hg := Lib.hid hg
        clear hg
        go_wp2_with (first
          | (go_at_call 35; with_reducible refine Hc.out.mono ?_; rintro e w1 ⟨rfl, nd, rfl⟩; dsimp only [cutV])
          | (go_at_call 42; with_reducible refine ((TX.out.draw nd).call_ok hs' Hg.out).mono ?_; rintro e w2 ⟨rfl, h1⟩; (have TX1 := Lib.hid h1; clear h1))
          | (go_at_call 45; with_reducible refine TX1.out.call_end.mono ?_; rintro e w3 ⟨rfl, h1, h2, h3⟩; (have H1 := Lib.hid h1; have H2 := Lib.hid h2; have H3 := Lib.hid h3; clear h1 h2 h3)))
        go_ret
        rw [HX.out]
        exact ⟨H1.out, H2.out, rfl, by have := Hg.out; show (acc ++ s').length ≤ 4096; omega, wvr, H3.out, TX.out.nw⟩
    | some x =>
      obtain ⟨a, n, r⟩ := x
      rw [hc] at Hc
      have HC := Lib.hid hc
      have hlt := cutP_lt hc
      have hle := cutP_len hc
      clear hc
      have ha : a.length ≤ 1000000 := by omega
      have hn : n.length ≤ 1000000 := by omega
      have hn3 : n.length + 3 ≤ 1000000 := by omega
      have hr : r.length ≤ 1000000 := by omega
      have Hlt := Lib.hid hlt
      clear hlt hle
      by_cases hg : 4096 < (acc ++ a).length
      · have HX := Lib.hid (HX.out.trans (txtP_b1 HC.out hg))
        have Hg := Lib.hid hg
        clear hg
        go_wp2_with (first
          | (go_at_call 35; with_reducible refine Hc.out.mono ?_; rintro e w1 ⟨rfl, nd, rfl⟩; dsimp only [cutV])
          | (go_at_call 42; with_reducible refine ((TX.out.draw nd).call_big ha Hg.out).mono ?_; rintro e w2 ⟨rfl, h1, h2⟩; (have H1 := Lib.hid h1; have H2 := Lib.hid h2; clear h1 h2)))
        exact ⟨rfl, by rw [HX.out]; exact ⟨H1.out, H2.out, rfl⟩⟩
      · have Hg := Lib.hid hg
        clear hg
        cases hlk : (lookP L n).isSome with
        | true =>
          have Hlk := Lib.hid hlk
          have Hls := Lib.hid (show (Option.map sv (lookP L n)).isSome = true by rw [Option.isSome_map]; exact hlk)
          clear hlk
          cases hval : valP L d way done' n with
          | mk x dn =>
            have Hval := Lib.hid hval
            clear hval
            cases x with
            | ok v =>
              by_cases hg2 : 4096 < (acc ++ a ++ v).length
              · have HX := Lib.hid (HX.out.trans (txtP_vb HC.out Hg.out Hlk.out Hval.out hg2))
                have Hg2 := Lib.hid hg2
                clear hg2
                go_wp2_with (first
                  | (go_at_call 35; with_reducible refine Hc.out.mono ?_; rintro e w1 ⟨rfl, nd, rfl⟩; dsimp only [cutV])
                  | (at_lookup; refine wpList_lookup_is (kt := 9) (vt := 9) rfl _ _ _ rfl strKey Try.underlying59 zeroStr rfl n rfl TX1.out.tab.raw ?_; rw [if_pos rfl, Hls.out])
                  | (go_at_call 37; with_reducible refine (TX1.out.val_ok HV.out (TX1.out.max HM.out hB) HW.out Hlk.out hn Hval.out).mono ?_; rintro e w3 ⟨rfl, hvl, wv3, h3⟩; (have TX2 := Lib.hid h3; have Hvl := Lib.hid hvl; clear h3 hvl))
                  | (go_at_call 42; with_reducible refine (TX2.out.call_big Hvl.out Hg2.out).mono ?_; rintro e w4 ⟨rfl, h1, h2⟩; (have H1 := Lib.hid h1; have H2 := Lib.hid h2; clear h1 h2))
                  | (go_at_call 42; with_reducible refine ((TX.out.draw nd).call_ok ha Hg.out).mono ?_; rintro e w2 ⟨rfl, h1⟩; (have TX1 := Lib.hid h1; obtain ⟨k0, k1⟩ := h1.cells; clear h1)))
                exact ⟨rfl, by rw [HX.out]; exact ⟨H1.out, H2.out, rfl⟩⟩
              · have HX := Lib.hid (HX.out.trans (txtP_vo HC.out Hg.out Hlk.out Hval.out hg2))
                have Hg2 := Lib.hid hg2
                clear hg2
                go_wp2_with (first
                  | (go_at_call 35; with_reducible refine Hc.out.mono ?_; rintro e w1 ⟨rfl, nd, rfl⟩; dsimp only [cutV])
                  | (at_lookup; refine wpList_lookup_is (kt := 9) (vt := 9) rfl _ _ _ rfl strKey Try.underlying59 zeroStr rfl n rfl TX1.out.tab.raw ?_; rw [if_pos rfl, Hls.out])
                  | (go_at_call 37; with_reducible refine (TX1.out.val_ok HV.out (TX1.out.max HM.out hB) HW.out Hlk.out hn Hval.out).mono ?_; rintro e w3 ⟨rfl, hvl, wv3, h3⟩; (have TX2 := Lib.hid h3; have Hvl := Lib.hid hvl; clear h3 hvl))
                  | (go_at_call 42; with_reducible refine (TX2.out.call_ok Hvl.out Hg2.out).mono ?_; rintro e w4 ⟨rfl, h1⟩; (have TX3 := Lib.hid h1; clear h1))
                  | (go_at_call 42; with_reducible refine ((TX.out.draw nd).call_ok ha Hg.out).mono ?_; rintro e w2 ⟨rfl, h1⟩; (have TX1 := Lib.hid h1; obtain ⟨k0, k1⟩ := h1.cells; clear h1)))
                exact ⟨⟨acc ++ a ++ v, dn, r, wv3, rfl, hr, TX3, HX⟩, Hlt.out⟩
            | loop n2 =>
              have HX := Lib.hid (HX.out.trans (txtP_vl HC.out Hg.out Hlk.out Hval.out))
              go_wp2_with (first
                | (go_at_call 35; with_reducible refine Hc.out.mono ?_; rintro e w1 ⟨rfl, nd, rfl⟩; dsimp only [cutV])
                | (at_lookup; refine wpList_lookup_is (kt := 9) (vt := 9) rfl _ _ _ rfl strKey Try.underlying59 zeroStr rfl n rfl TX1.out.tab.raw ?_; rw [if_pos rfl, Hls.out])
                | (go_at_call 37; with_reducible refine (TX1.out.val_loop HV.out (TX1.out.max HM.out hB) HW.out Hlk.out hn Hval.out).mono ?_; rintro e w3 ⟨rfl, h1, h2⟩; (have H1 := Lib.hid h1; have H2 := Lib.hid h2; clear h1 h2))
                | (go_at_call 42; with_reducible refine ((TX.out.draw nd).call_ok ha Hg.out).mono ?_; rintro e w2 ⟨rfl, h1⟩; (have TX1 := Lib.hid h1; obtain ⟨k0, k1⟩ := h1.cells; clear h1)))
              exact ⟨rfl, by rw [HX.out]; exact ⟨H1.out, H2.out, rfl⟩⟩
            | big n2 =>
              have HX := Lib.hid (HX.out.trans (txtP_vg HC.out Hg.out Hlk.out Hval.out))
              go_wp2_with (first
                | (go_at_call 35; with_reducible refine Hc.out.mono ?_; rintro e w1 ⟨rfl, nd, rfl⟩; dsimp only [cutV])
                | (at_lookup; refine wpList_lookup_is (kt := 9) (vt := 9) rfl _ _ _ rfl strKey Try.underlying59 zeroStr rfl n rfl TX1.out.tab.raw ?_; rw [if_pos rfl, Hls.out])
                | (go_at_call 37; with_reducible refine (TX1.out.val_big HV.out (TX1.out.max HM.out hB) HW.out Hlk.out hn Hval.out).mono ?_; rintro e w3 ⟨rfl, h1, h2⟩; (have H1 := Lib.hid h1; have H2 := Lib.hid h2; clear h1 h2))
                | (go_at_call 42; with_reducible refine ((TX.out.draw nd).call_ok ha Hg.out).mono ?_; rintro e w2 ⟨rfl, h1⟩; (have TX1 := Lib.hid h1; obtain ⟨k0, k1⟩ := h1.cells; clear h1)))
              exact ⟨rfl, by rw [HX.out]; exact ⟨H1.out, H2.out, rfl⟩⟩
        | false =>
          have Hls := Lib.hid (show (Option.map sv (lookP L n)).isSome = false by rw [Option.isSome_map]; exact hlk)
          have Hlk := Lib.hid hlk
          clear hlk
          have Hvl := Lib.hid (show (36 :: 123 :: (n ++ [125])).length ≤ 1000000 by simp; omega)
          have x1 := fun w => concat1 n hn w
          have x2 := fun w => concat2 n hn w
          by_cases hg2 : 4096 < (acc ++ a ++ 36 :: 123 :: (n ++ [125])).length
          · have HX := Lib.hid (HX.out.trans (txtP_ub HC.out Hg.out Hlk.out hg2))
            have Hg2 := Lib.hid hg2
            clear hg2
            go_wp2_with (first
              | (go_at_call 35; with_reducible refine Hc.out.mono ?_; rintro e w1 ⟨rfl, nd, rfl⟩; dsimp only [cutV])
              | (at_lookup; refine wpList_lookup_is (kt := 9) (vt := 9) rfl _ _ _ rfl strKey Try.underlying59 zeroStr rfl n rfl TX1.out.tab.raw ?_; rw [if_pos rfl, Hls.out])
              | (go_at_call 42; with_reducible refine (TX1.out.call_big Hvl.out Hg2.out).mono ?_; rintro e w3 ⟨rfl, h1, h2⟩; (have H1 := Lib.hid h1; have H2 := Lib.hid h2; clear h1 h2))
              | (go_at_call 42; with_reducible refine ((TX.out.draw nd).call_ok ha Hg.out).mono ?_; rintro e w2 ⟨rfl, h1⟩; (have TX1 := Lib.hid h1; obtain ⟨k0, k1⟩ := h1.cells; clear h1)))
            exact ⟨rfl, by rw [HX.out]; exact ⟨H1.out, H2.out, rfl⟩⟩
          · have HX := Lib.hid (HX.out.trans (txtP_uo HC.out Hg.out Hlk.out hg2))
            have Hg2 := Lib.hid hg2
            clear hg2
            go_wp2_with (first
              | (go_at_call 35; with_reducible refine Hc.out.mono ?_; rintro e w1 ⟨rfl, nd, rfl⟩; dsimp only [cutV])
              | (at_lookup; refine wpList_lookup_is (kt := 9) (vt := 9) rfl _ _ _ rfl strKey Try.underlying59 zeroStr rfl n rfl TX1.out.tab.raw ?_; rw [if_pos rfl, Hls.out])
              | (go_at_call 42; with_reducible refine (TX1.out.call_ok Hvl.out Hg2.out).mono ?_; rintro e w3 ⟨rfl, h1⟩; (have TX3 := Lib.hid h1; clear h1))
              | (go_at_call 42; with_reducible refine ((TX.out.draw nd).call_ok ha Hg.out).mono ?_; rintro e w2 ⟨rfl, h1⟩; (have TX1 := Lib.hid h1; obtain ⟨k0, k1⟩ := h1.cells; clear h1)))
            exact ⟨⟨_, done', r, wvr, rfl, hr, TX3, HX⟩, Hlt.out⟩
end Go.Proofs.Ytpgdioopkcfjdaa
