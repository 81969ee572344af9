/- PropAll: the law, walked. -/
import Derived.Test.YtpgdioopkcfjdaaPrK5
import Derived.Test.YtpgdioopkcfjdaaPrX14
namespace Go.Proofs.Ytpgdioopkcfjdaa
open Go.RowKit

theorem box_refN (w : World) (lv : Value) (L : PL) {B0 : Nat} (hp : RProps w (Lt B0) lv L) (hB : B0 ≤ w.heap.size) : RefAt NoB (w.alloc (.cells #[lv, .slice none 0 0, .int .i64 0, .string ⟨#[]⟩, .int .i64 0, .slice none 0 0] 30)) (w.alloc (.cells #[lv, .slice none 0 0, .int .i64 0, .string ⟨#[]⟩, .int .i64 0, .slice none 0 0] 30)) w.heap.size w.heap.size lv L (.slice none 0 0) [] 0 [] (.slice none 0 0) [] :=
  ⟨heap_alloc_new _ _, RProps.stable.sub (RProps.stable.agree hp (ag_of_below ((below_alloc w _).mono hB))) (fun _ hb => Nat.lt_of_lt_of_le hb hB), POwn.nil _ _, ⟨rfl, .inl ⟨rfl, rfl⟩⟩, Nat.le_refl _, ⟨Nat.le_refl _, fun _ e => e.elim⟩, fun e => e, fun _ _ e => e, fun _ _ e => e⟩
theorem mem_look {L : PL} {p : Bs × Bs} (h : p ∈ L) : (lookP L p.1).isSome = true := by
  unfold lookP
  rw [Option.isSome_map, List.find?_isSome]
  exact ⟨p, h, by simp⟩
theorem mem_uniq : ∀ (L : PL) (p : Bs × Bs), p ∈ uniqP L → p ∈ L := by
  intro L
  rw [uniq_uq0]
  suffices h : ∀ (R s : PL) (p : Bs × Bs), p ∈ uq s R → p ∈ R from h L []
  intro R
  induction R with
  | nil => intro s p h; cases h
  | cons q R ih =>
    intro s p h
    unfold uq at h
    split at h
    · exact List.mem_cons_of_mem _ (ih _ _ h)
    · rcases List.mem_cons.1 h with rfl | h
      · exact List.mem_cons_self
      · exact List.mem_cons_of_mem _ (ih _ _ h)
set_option maxRecDepth 100000 in
set_option maxHeartbeats 16000000 in
theorem walk_PropAll (m : Int) (W : World) (hm : MaxAt m W) (v0 : Value) (a0 : Arg Try.prog W 22 v0) : Calls Try.prog 9 #[v0] W fun e W' => e = .returned (.bool true) ∧ Below W.heap.size W W' := by
  obtain ⟨L0, r0⟩ := arg_props a0
  clear a0
  have hl := fewP_length L0
  have HL := Lib.hid (show ∀ p ∈ fewP L0, p.2.length ≤ 1000000 from fun p hp => by have := (fewP_ok L0 p hp).2; omega)
  have HN := Lib.hid (show ∀ p ∈ fewP L0, p.1.length ≤ 1000000 from fun p hp => by have := (fewP_ok L0 p hp).1; omega)
  have F0 := Lib.hid (few_any v0 L0 W r0)
  generalize fewP L0 = L at F0 hl HL HN
  have HM := Lib.hid hm
  have hpos := hm.lt
  clear hm r0
  obtain ⟨x0, hx0⟩ : ∃ x0, x0 = v0 := ⟨_, rfl⟩
  rw [← hx0] at F0 ⊢
  clear hx0
  obtain ⟨RR, hRR⟩ : ∃ RR, RR = allP L (uq [] L) [] [] := ⟨_, rfl⟩
  have HRR := Lib.hid hRR
  have hul := uniqP_length L
  have hU : ∀ p ∈ uniqP L, (lookP L p.1).isSome = true ∧ p.1.length ≤ 1000000 := fun p hp => ⟨mem_look (mem_uniq L p hp), HN.out p (mem_uniq L p hp)⟩
  have HA := Lib.hid (fun (B T R Dn : Nat) (lv : Value) (w : World) (hB : 0 < B) (hm : MaxAt m w) (ht : TabAt w B T R Dn lv L (uniqP L) []) => All_any hB HL.out hU (by omega) [] w hm ht)
  rw [show allP L (uniqP L) [] [] = RR by rw [hRR, uniq_uq0]] at HA
  have HF := Lib.hid (fun (X : Nat) (lv : Value) (w : World) (dv ov : Value) (bad : Int) (nm : Bs) (way : List Bs) (hr : RefAt NoB w w X X lv L dv [] bad nm ov way) => refAll_any HL.out HN.out (by omega) [] w dv ov bad nm way hr (doneOK_nil L))
  rw [← hRR] at HF
  clear hRR hU HRR
  go_enter Try.func9, Try.ntmps9
  go_wp2_with (first
    | (go_at_call 11; (with_reducible refine F0.out.mono ?_); rintro e w1 ⟨u1, rfl, h1, h2⟩; obtain ⟨A1, c1, rfl⟩ := h1.shape; (have HL1 := Lib.hid (props_of_own (S := Lt w1.heap.size) h1 fun g hg => (h1.lt g hg).2); have HB1 := Lib.hid h2; clear h1 h2))
    | (go_at_call 12; (with_reducible refine (New_any _ L w1 HL1.out (by omega)).mono ?_); rintro e w2 ⟨T, R, Dn, tv, rfl, h1, h2⟩; (have T2 := Lib.hid h1; have HB2 := Lib.hid h2; clear h1 h2))
    | (go_at_call 22; (with_reducible refine (HA.out _ _ _ _ _ w2 (Nat.lt_of_lt_of_le hpos HB1.out.size) ((HM.out.below HB1.out hpos).below HB2.out (Nat.lt_of_lt_of_le hpos HB1.out.size)) T2.out).mono ?_); rintro e w3 ⟨va, rfl, h1, h2⟩; obtain ⟨Aa, ca, rfl⟩ := h1.shape; (have HP3 := Lib.hid h1; have HB3 := Lib.hid (HB2.out.trans (h2.below (B := w1.heap.size) (chT_lo T2.out) HB2.out.size)); clear h1 h2)))
  have HR4 := Lib.hid (box_refN w3 (.slice A1 L.length c1) L (RProps.stable.agree HL1.out (ag_of_below HB3.out)) HB3.out.size)
  have Hs3 := Lib.hid (POwn.lt HP3.out)
  refine (HF.out _ _ _ _ _ _ _ _ HR4.out).mono ?_
  rintro e w5 ⟨vb, rfl, h1, h2⟩
  obtain ⟨Ab, cb, rfl⟩ := h1.shape
  have hb5 : Below w3.heap.size w3 w5 := ((below_alloc w3 _)).trans h2
  have HB5 := Lib.hid (HB3.out.trans (hb5.mono HB3.out.size))
  have HPa := Lib.hid (props_of_own (S := Lt w5.heap.size) (own_kp HP3.out fun _ _ => kp_new hb5 _) fun g hg => Nat.lt_of_lt_of_le (Hs3.out g hg).2 hb5.size)
  have HPb := Lib.hid (props_of_own (S := Lt w5.heap.size) h1 fun g hg => (POwn.lt h1 g hg).2)
  have HS := Lib.hid (SameProps_any _ _ _ _ _ HPa.out HPb.out)
  rw [decide_eq_true rfl] at HS
  have HMr := Lib.hid ((HM.out.below HB1.out hpos).below HB5.out (Nat.lt_of_lt_of_le hpos HB1.out.size))
  clear h1 h2 hb5 HR4 HP3
  generalize allE RR = e0 at *
  generalize allN RR = n0 at *
  have s1 : (e0 == e0) = true := beq_self_eq_true _
  have s2 : ((bz n0).toList == (bz n0).toList) = true := beq_self_eq_true _
  go_wp2_with (first
    | (go_at_call 24; (with_reducible refine HS.out.mono ?_); rintro e w6 ⟨rfl, h1⟩; (have HB6 := Lib.hid (HB5.out.trans (h1.mono HB5.out.size)); have HM6 := Lib.hid (HMr.out.below h1 (Nat.lt_of_lt_of_le (Nat.lt_of_lt_of_le hpos HB1.out.size) HB5.out.size)); clear h1))
    | (go_at_call 17; (with_reducible refine (lives_any (m := m) w6 HM6.out).mono ?_); rintro e w9 ⟨rfl, h1⟩; (have HZ := Lib.hid (HB1.out.trans ((HB6.out.trans (h1.mono HB6.out.size)).mono HB1.out.size)); clear h1)))
  go_ret
  exact ⟨rfl, HZ.out⟩
end Go.Proofs.Ytpgdioopkcfjdaa
