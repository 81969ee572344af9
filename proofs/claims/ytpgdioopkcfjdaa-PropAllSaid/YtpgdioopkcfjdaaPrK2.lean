/- PropPuts: the law, walked. -/
import Derived.Test.YtpgdioopkcfjdaaPrK1
import Derived.Deep.AppendSrc
namespace Go.Proofs.Ytpgdioopkcfjdaa
open Go.RowKit

theorem RProps.up {w w' : World} {v : Value} {L : PL} (h : RProps w (Lt w.heap.size) v L) (hb : Below w.heap.size w w') : RProps w' (Lt w'.heap.size) v L := RProps.stable.up h hb
/-- `append([]api.Prop{}, l...)`, l nil or not -/
theorem wpList_copyP {w : World} {ops : Array Oper} {rest : List Oper} {o : Oper} {a : Act} {Q : Exit → Act → World → Prop} (hgd : o.guard = none) (s x : Operand)
    (ho : o.op = .call { callee := .builtin .append, args := #[s, x], argTypes := #[22, 22] }) {base g : Nat}
    (hs : a.eval s = .slice (some ⟨g, 0, none⟩) 0 0) (hown : POwn w base (.slice (some ⟨g, 0, none⟩) 0 0) []) {A : Option Addr} {c : Nat} {L : PL} {S : Nat → Prop} (hx : a.eval x = .slice A L.length c) (hat : RAtV 2 VProp w S A L) (hn : L.length ≤ 1000000) (hbase : base ≤ w.heap.size)
    (h : ∀ v' w', POwn w' base v' L → w.grownBy w' (some g) → wpList Try.prog ops Q rest (a.put o.dst v') w') : wpList Try.prog ops Q (o :: rest) a w := by
  cases A with
  | some ad => exact wpList_appendP hgd s x ho hs hown ad c L hx (rprops_cells hat) (by simp; omega) hbase fun v' w' h1 h2 _ => h v' w' (by simpa using h1) h2
  | none =>
    obtain rfl := propsNil hat
    obtain ⟨i, hi, hz, hsz, hby⟩ := info_parts (show (Try.prog.info? 42).map (fun i => (i.zero, i.size, i.bytes)) = some (some (.agg #[.string ⟨#[]⟩, .string ⟨#[]⟩]), 2, 32) by kernel_rfl)
    refine wpList_plain hgd fun K hK => ?_
    have hr := run_append_room_src (P := Try.prog) w 22 22 o.type 42 i Try.underlying22 hi g 0 0 0 (.slice none 0 c) 0 [] (Src.ofNil w Try.underlying22 c) (Nat.le_refl _) (fun j hj => by cases hj) (fun j hj => by cases hj)
    unfold Oper.wp execOp
    simp only [ho, resolve, invoke, builtin, Sem.run_bind, Sem.run_pure, Result.andThen_ok, List.map_toArray, List.map_cons, List.map_nil, hs, hx, List.length_nil, hr]
    exact hK _ _ (h _ w hown (World.grownBy.refl w _))
theorem RProps_at {w : World} {S : Nat → Prop} {A : Option Addr} {n c : Nat} {L : PL} (h : RProps w S (.slice A n c) L) : RAtV 2 VProp w S A L := by
  obtain ⟨A', c', e, _, _, h'⟩ := h
  simp only [Value.slice.injEq] at e
  obtain ⟨rfl, -, -⟩ := e
  exact h'
theorem RProps_al {w : World} {A : Option Addr} {L : PL} {o : Obj} (h : RAtV 2 VProp w (Lt w.heap.size) A L) : RAtV 2 VProp (w.alloc o) (Lt w.heap.size) A L := h.agree (VCells.stable _) (ag_alloc w o) (fun _ h => h)
set_option maxHeartbeats 8000000 in
theorem walk_PropPuts (m : Int) (W : World) (hm : MaxAt m W) (v0 v1 v2 : Value) (a0 : Arg Try.prog W 22 v0) (a1 : Arg Try.prog W 22 v1) (a2 : Arg Try.prog W 9 v2) : Calls Try.prog 10 #[v0, v1, v2] W fun e W' => e = .returned (.bool true) ∧ Below W.heap.size W W' := by
  obtain ⟨L0, r0⟩ := arg_props a0
  obtain ⟨M0, r1⟩ := arg_props a1
  obtain ⟨n0, rfl⟩ := arg_text a2
  clear a0 a1 a2
  have HC := Lib.hid (fun w => lawcutL_any n0 w)
  generalize cut1 n0 = n at HC
  have hl := fewP_length L0
  have hml := fewP_length M0
  have F0 := Lib.hid (few_any v0 L0 W r0)
  have R1 := Lib.hid r1
  have F1 := Lib.hid (fun w (h : RProps w (Lt w.heap.size) v1 M0) => few_any v1 M0 w h)
  generalize fewP L0 = L at F0 hl
  generalize fewP M0 = M at F1 hml
  have HM := Lib.hid hm
  have hpos := hm.lt
  clear hm r0 r1
  obtain ⟨B, hB⟩ : ∃ B, B = W.heap.size := ⟨_, rfl⟩
  have HBe := Lib.hid hB
  rw [← hB] at hpos ⊢
  clear hB
  obtain ⟨x0, hx0⟩ : ∃ x0, x0 = v0 := ⟨_, rfl⟩
  rw [← hx0] at F0 ⊢
  obtain ⟨x1, hx1⟩ : ∃ x1, x1 = v1 := ⟨_, rfl⟩
  rw [← hx1] at F1 R1 ⊢
  clear hx0 hx1
  rcases lookP_idx L n with ⟨i, hi, hix, hlk, -⟩ | ⟨hix, hlk⟩
  · have Hlk := Lib.hid hlk
    have Hix := Lib.hid hix
    have e0 : ((bz L[i].2).toList == (bz L[i].2).toList) = true := by rw [bz_beq]; simp
    clear hlk hix
    go_enter Try.func10, Try.ntmps10
    go_wp2_with (first
      | (go_at_call 11; with_reducible refine F0.out.mono ?_; rintro e w1 ⟨u1, rfl, h1, h2⟩; obtain ⟨A1, c1, rfl⟩ := h1.shape; (have HL1 := Lib.hid (props_of_own h1 fun g hg => (h1.lt g hg).2); have HB1 := Lib.hid (show Below B W w1 by rw [HBe.out]; exact h2); have HR1 := Lib.hid (R1.out.up h2); clear h1 h2))
      | (go_at_call 11; with_reducible refine (F1.out w1 HR1.out).mono ?_; rintro e w2 ⟨u2, rfl, h1, h2⟩; obtain ⟨A2, c2, rfl⟩ := h1.shape; (have HL2 := Lib.hid (HL1.out.up h2); have HM2 := Lib.hid (props_of_own h1 fun g hg => (h1.lt g hg).2); have HB2 := Lib.hid (HB1.out.trans (h2.mono (by have := HB1.out.size; have := HBe.out; omega))); have Hs2 := Lib.hid (show B ≤ w2.heap.size by have := HB1.out.size; have := HBe.out; have := h2.size; omega); have Hat := Lib.hid (RProps_at HL2.out); clear h1 h2))
      | (go_at_call 14; with_reducible refine (HC.out _).mono ?_; rintro e w3 ⟨rfl, hw3⟩; subst hw3)
      | (go_at_call 25; with_reducible refine (Get_any _ L n w4 HL4.out).mono ?_; rintro e w5 ⟨rfl, h2⟩; rw [Hlk.out]; dsimp only [Option.getD, Option.isSome]; (have HL5 := Lib.hid (HL4.out.up h2); have HM5 := Lib.hid (HM4.out.up h2); have HW5 := Lib.hid (HW4.out.up h2); have HB5 := Lib.hid (HB4.out.trans (h2.mono Hs4.out)); have Hs5 := Lib.hid (Nat.le_trans Hs4.out h2.size); clear h2))
      | (go_at_call 19; with_reducible refine (At_any _ L n w5 HL5.out).mono ?_; rintro e w6 ⟨rfl, h2⟩; rw [Hix.out]; (have HL6 := Lib.hid (HL5.out.up h2); have HM6 := Lib.hid (HM5.out.up h2); have HW6 := Lib.hid (HW5.out.up h2); have HB6 := Lib.hid (HB5.out.trans (h2.mono Hs5.out)); have Hs6 := Lib.hid (Nat.le_trans Hs5.out h2.size); clear h2); obtain ⟨b, off, rfl, -, -, y1⟩ := prop_cells (RProps_at HL6.out) hi)
      | (at_builtin; refine wpList_copyP (g := w6.heap.size) rfl _ _ rfl rfl (POwn.lit0 w6) rfl (RProps_al (RProps_at HL6.out)) (by omega) (by simp) ?_
         intro v7 w7 hown7 hg7
         have hb67 : Below w6.heap.size w6 w7 := (below_alloc w6 _).grown hg7 (by simp) (fun g hg => by cases hg; exact Nat.le_refl _)
         obtain ⟨A7, c7, rfl⟩ := hown7.shape
         (have HL7 := Lib.hid (HL6.out.up hb67); have HM7 := Lib.hid (HM6.out.up hb67); have HW7 := Lib.hid (HW6.out.up hb67); have HB7 := Lib.hid (HB6.out.trans (hb67.mono Hs6.out)); have HV7 := Lib.hid (props_of_own (S := Lt w7.heap.size) hown7 fun g hg => (hown7.lt g hg).2); have Hs7 := Lib.hid (Nat.le_trans Hs6.out hb67.size); clear hown7 hg7 hb67))
      | (at_builtin; refine wpList_copyP (g := w3.heap.size) rfl _ _ rfl rfl (POwn.lit0 w3) rfl (RProps_al Hat.out) (by omega) (by simp) ?_
         intro v4 w4 hown4 hg4
         have hb34 : Below w3.heap.size w3 w4 := (below_alloc w3 _).grown hg4 (by simp) (fun g hg => by cases hg; exact Nat.le_refl _)
         obtain ⟨A4, c4, rfl⟩ := hown4.shape
         (have HL4 := Lib.hid (HL2.out.up hb34); have HM4 := Lib.hid (HM2.out.up hb34); have HB4 := Lib.hid (HB2.out.trans (hb34.mono Hs2.out)); have HW4 := Lib.hid (props_of_own (S := Lt w4.heap.size) hown4 fun g hg => (hown4.lt g hg).2); have Hs4 := Lib.hid (Nat.le_trans Hs2.out hb34.size); clear hown4 hg4 hb34)))
    have HMat := Lib.hid (RProps_at HM7.out)
    clear HL1 HL2 HM2 HL4 HM4 HW4 HL5 HM5 HW5 HL6 HM6 HW6 HB1 HB2 HB4 HB5 HB6 HR1 Hat F0 F1 R1
    go_loopw [62, 11] (fun kv lv wr => ∃ k : Nat, k ≤ M.length ∧ kv = .int .i64 k ∧ Hid (RProps wr (Lt wr.heap.size) lv (overP L (M.take k))) ∧ Hid (Below w7.heap.size w7 wr)) (fun kv _ _ => M.length - (intOf kv).toNat)
    case atStart => exact ⟨0, Nat.zero_le _, rfl, HV7, Lib.hid (Below.refl _ _)⟩
    case round =>
      obtain ⟨lv, hlv⟩ : ∃ lv, lv = u11 := ⟨_, rfl⟩
      rw [← hlv] at hrel ⊢
      clear hlv
      obtain ⟨k, hkle, rfl, HR, HB⟩ := hrel
      rcases Nat.lt_or_ge k M.length with hk | hk
      · obtain ⟨bm, offm, rfl, hbm, c0, c1'⟩ := prop_cells (HMat.out.agree (VCells.stable _) (ag_of_below HB.out) (fun _ h => h)) hk
        have hszr : w7.heap.size ≤ wr.heap.size := HB.out.size
        have H2 := Lib.hid (RefPut_any lv (overP L (M.take k)) M[k].1 M[k].2 (wr.alloc (.cells #[sv M[k].1, sv M[k].2] 42)) (RProps.stable.up HR.out (below_alloc _ _)) (by have := overP_length L (M.take k); simp at this; omega))
        go_wp2_with (go_at_call 26; with_reducible refine H2.out.mono ?_; rintro e w8 ⟨u8, rfl, hr8, hb8⟩; (have HR8 := Lib.hid hr8; have HB8 := Lib.hid hb8; clear hr8 hb8))
        go_roundw
        case rel => exact ⟨k + 1, by omega, by go_num, by rw [overP_succ _ _ _ hk]; exact HR8, Lib.hid ((HB.out.alloc hszr _).trans (HB8.out.mono (by simp; omega)))⟩
        case measure => simp [intOf]; omega
      · obtain rfl : k = M.length := by omega
        have HWant := Lib.hid (show RProps wr (Lt wr.heap.size) lv (overP L M) by have h := HR.out; rwa [List.take_length] at h)
        have HLr := Lib.hid (HL7.out.up HB.out)
        have HMr := Lib.hid (HM7.out.up HB.out)
        have HWr := Lib.hid (HW7.out.up HB.out)
        have HBr := Lib.hid (HB7.out.trans (HB.out.mono Hs7.out))
        have Hsr := Lib.hid (Nat.le_trans Hs7.out HB.out.size)
        have HO := Lib.hid (Over_any _ _ L M wr HLr.out HMr.out (by omega) (by omega))
        have He : (⟨#[120]⟩ : ByteArray) = bz [120] := rfl
        clear HR HMat HL7 HM7 HW7 HV7 HB7 Hs7 HB
        go_wp2_with (first
          | (go_at_call 27; with_reducible refine HO.out.mono ?_; rintro e w8 ⟨u8, rfl, h1, h2⟩; (have HS8 := Lib.hid (SameProps_any u8 lv (overP L M) (overP L M) w8 h1 (HWant.out.up h2)); have HL8 := Lib.hid (HLr.out.up h2); have HW8 := Lib.hid (HWr.out.up h2); have HB8 := Lib.hid (HBr.out.trans (h2.mono Hsr.out)); have Hs8 := Lib.hid (Nat.le_trans Hsr.out h2.size); clear h1 h2); rw [decide_eq_true rfl] at HS8)
          | (go_at_call 24; with_reducible refine HS8.out.mono ?_; rintro e w9 ⟨rfl, h2⟩; (have HL9 := Lib.hid (HL8.out.up h2); have HW9 := Lib.hid (HW8.out.up h2); have HB9 := Lib.hid (HB8.out.trans (h2.mono Hs8.out)); have Hs9 := Lib.hid (Nat.le_trans Hs8.out h2.size); clear h2))
          | (go_at_call 28; with_reducible refine (Put_any _ L n [120] w9 HL9.out (by omega)).mono ?_; rintro e w10 ⟨u10, rfl, h1, h2⟩; (have HP10 := Lib.hid h1; have HL10 := Lib.hid (HL9.out.up h2); have HW10 := Lib.hid (HW9.out.up h2); have HB10 := Lib.hid (HB9.out.trans (h2.mono Hs9.out)); have Hs10 := Lib.hid (Nat.le_trans Hs9.out h2.size); clear h1 h2))
          | (go_at_call 26; with_reducible refine (RefPut_any _ L n [120] w10 HL10.out (by omega)).mono ?_; rintro e w11 ⟨u11', rfl, h1, h2⟩; (have HS11 := Lib.hid (SameProps_any u10 u11' (putP L n [120]) (putP L n [120]) w11 (HP10.out.up h2) h1); have HL11 := Lib.hid (HL10.out.up h2); have HW11 := Lib.hid (HW10.out.up h2); have HB11 := Lib.hid (HB10.out.trans (h2.mono Hs10.out)); have Hs11 := Lib.hid (Nat.le_trans Hs10.out h2.size); clear h1 h2); rw [decide_eq_true rfl] at HS11)
          | (go_at_call 24; with_reducible refine HS11.out.mono ?_; rintro e w12 ⟨rfl, h2⟩; (have HS12 := Lib.hid (SameProps_any _ _ L L w12 (HL11.out.up h2) (HW11.out.up h2)); have HB12 := Lib.hid (HB11.out.trans (h2.mono Hs11.out)); have Hs12 := Lib.hid (Nat.le_trans Hs11.out h2.size); clear h2); rw [decide_eq_true rfl] at HS12)
          | (go_at_call 24; with_reducible refine HS12.out.mono ?_; rintro e w13 ⟨rfl, h2⟩; (have HB13 := Lib.hid (HB12.out.trans (h2.mono Hs12.out)); have Hs13 := Lib.hid (Nat.le_trans Hs12.out h2.size); clear h2))
          | (go_at_call 17; with_reducible refine (lives_any (m := m) w13 (HM.out.below HB13.out hpos)).mono ?_; rintro e w14 ⟨rfl, h2⟩; (have HB14 := Lib.hid (HB13.out.trans (h2.mono Hs13.out)); clear h2)))
        go_ret
        exact ⟨rfl, HB14.out⟩
  · have Hlk := Lib.hid hlk
    have Hix := Lib.hid hix
    have e0 : ((bz []).toList == (bz []).toList) = true := by rw [bz_beq]; simp
    have He0 : (⟨#[]⟩ : ByteArray) = bz [] := rfl
    clear hlk hix
    go_enter Try.func10, Try.ntmps10
    go_wp2_with (first
      | (go_at_call 11; with_reducible refine F0.out.mono ?_; rintro e w1 ⟨u1, rfl, h1, h2⟩; obtain ⟨A1, c1, rfl⟩ := h1.shape; (have HL1 := Lib.hid (props_of_own h1 fun g hg => (h1.lt g hg).2); have HB1 := Lib.hid (show Below B W w1 by rw [HBe.out]; exact h2); have HR1 := Lib.hid (R1.out.up h2); clear h1 h2))
      | (go_at_call 11; with_reducible refine (F1.out w1 HR1.out).mono ?_; rintro e w2 ⟨u2, rfl, h1, h2⟩; obtain ⟨A2, c2, rfl⟩ := h1.shape; (have HL2 := Lib.hid (HL1.out.up h2); have HM2 := Lib.hid (props_of_own h1 fun g hg => (h1.lt g hg).2); have HB2 := Lib.hid (HB1.out.trans (h2.mono (by have := HB1.out.size; have := HBe.out; omega))); have Hs2 := Lib.hid (show B ≤ w2.heap.size by have := HB1.out.size; have := HBe.out; have := h2.size; omega); have Hat := Lib.hid (RProps_at HL2.out); clear h1 h2))
      | (go_at_call 14; with_reducible refine (HC.out _).mono ?_; rintro e w3 ⟨rfl, hw3⟩; subst hw3)
      | (go_at_call 25; with_reducible refine (Get_any _ L n w4 HL4.out).mono ?_; rintro e w5 ⟨rfl, h2⟩; rw [Hlk.out]; dsimp only [Option.getD, Option.isSome]; (have HL5 := Lib.hid (HL4.out.up h2); have HM5 := Lib.hid (HM4.out.up h2); have HW5 := Lib.hid (HW4.out.up h2); have HB5 := Lib.hid (HB4.out.trans (h2.mono Hs4.out)); have Hs5 := Lib.hid (Nat.le_trans Hs4.out h2.size); clear h2))
      | (go_at_call 19; with_reducible refine (At_any _ L n w5 HL5.out).mono ?_; rintro e w6 ⟨rfl, h2⟩; rw [Hix.out]; (have HL6 := Lib.hid (HL5.out.up h2); have HM6 := Lib.hid (HM5.out.up h2); have HW6 := Lib.hid (HW5.out.up h2); have HB6 := Lib.hid (HB5.out.trans (h2.mono Hs5.out)); have Hs6 := Lib.hid (Nat.le_trans Hs5.out h2.size); clear h2); skip)
      | (at_builtin; refine wpList_copyP (g := w6.heap.size) rfl _ _ rfl rfl (POwn.lit0 w6) rfl (RProps_al (RProps_at HL6.out)) (by omega) (by simp) ?_
         intro v7 w7 hown7 hg7
         have hb67 : Below w6.heap.size w6 w7 := (below_alloc w6 _).grown hg7 (by simp) (fun g hg => by cases hg; exact Nat.le_refl _)
         obtain ⟨A7, c7, rfl⟩ := hown7.shape
         (have HL7 := Lib.hid (HL6.out.up hb67); have HM7 := Lib.hid (HM6.out.up hb67); have HW7 := Lib.hid (HW6.out.up hb67); have HB7 := Lib.hid (HB6.out.trans (hb67.mono Hs6.out)); have HV7 := Lib.hid (props_of_own (S := Lt w7.heap.size) hown7 fun g hg => (hown7.lt g hg).2); have Hs7 := Lib.hid (Nat.le_trans Hs6.out hb67.size); clear hown7 hg7 hb67))
      | (at_builtin; refine wpList_copyP (g := w3.heap.size) rfl _ _ rfl rfl (POwn.lit0 w3) rfl (RProps_al Hat.out) (by omega) (by simp) ?_
         intro v4 w4 hown4 hg4
         have hb34 : Below w3.heap.size w3 w4 := (below_alloc w3 _).grown hg4 (by simp) (fun g hg => by cases hg; exact Nat.le_refl _)
         obtain ⟨A4, c4, rfl⟩ := hown4.shape
         (have HL4 := Lib.hid (HL2.out.up hb34); have HM4 := Lib.hid (HM2.out.up hb34); have HB4 := Lib.hid (HB2.out.trans (hb34.mono Hs2.out)); have HW4 := Lib.hid (props_of_own (S := Lt w4.heap.size) hown4 fun g hg => (hown4.lt g hg).2); have Hs4 := Lib.hid (Nat.le_trans Hs2.out hb34.size); clear hown4 hg4 hb34)))
    have HMat := Lib.hid (RProps_at HM7.out)
    clear HL1 HL2 HM2 HL4 HM4 HW4 HL5 HM5 HW5 HL6 HM6 HW6 HB1 HB2 HB4 HB5 HB6 HR1 Hat F0 F1 R1
    go_loopw [62, 11] (fun kv lv wr => ∃ k : Nat, k ≤ M.length ∧ kv = .int .i64 k ∧ Hid (RProps wr (Lt wr.heap.size) lv (overP L (M.take k))) ∧ Hid (Below w7.heap.size w7 wr)) (fun kv _ _ => M.length - (intOf kv).toNat)
    case atStart => exact ⟨0, Nat.zero_le _, rfl, HV7, Lib.hid (Below.refl _ _)⟩
    case round =>
      obtain ⟨lv, hlv⟩ : ∃ lv, lv = u11 := ⟨_, rfl⟩
      rw [← hlv] at hrel ⊢
      clear hlv
      obtain ⟨k, hkle, rfl, HR, HB⟩ := hrel
      rcases Nat.lt_or_ge k M.length with hk | hk
      · obtain ⟨bm, offm, rfl, hbm, c0, c1'⟩ := prop_cells (HMat.out.agree (VCells.stable _) (ag_of_below HB.out) (fun _ h => h)) hk
        have hszr : w7.heap.size ≤ wr.heap.size := HB.out.size
        have H2 := Lib.hid (RefPut_any lv (overP L (M.take k)) M[k].1 M[k].2 (wr.alloc (.cells #[sv M[k].1, sv M[k].2] 42)) (RProps.stable.up HR.out (below_alloc _ _)) (by have := overP_length L (M.take k); simp at this; omega))
        go_wp2_with (go_at_call 26; with_reducible refine H2.out.mono ?_; rintro e w8 ⟨u8, rfl, hr8, hb8⟩; (have HR8 := Lib.hid hr8; have HB8 := Lib.hid hb8; clear hr8 hb8))
        go_roundw
        case rel => exact ⟨k + 1, by omega, by go_num, by rw [overP_succ _ _ _ hk]; exact HR8, Lib.hid ((HB.out.alloc hszr _).trans (HB8.out.mono (by simp; omega)))⟩
        case measure => simp [intOf]; omega
      · obtain rfl : k = M.length := by omega
        have HWant := Lib.hid (show RProps wr (Lt wr.heap.size) lv (overP L M) by have h := HR.out; rwa [List.take_length] at h)
        have HLr := Lib.hid (HL7.out.up HB.out)
        have HMr := Lib.hid (HM7.out.up HB.out)
        have HWr := Lib.hid (HW7.out.up HB.out)
        have HBr := Lib.hid (HB7.out.trans (HB.out.mono Hs7.out))
        have Hsr := Lib.hid (Nat.le_trans Hs7.out HB.out.size)
        have HO := Lib.hid (Over_any _ _ L M wr HLr.out HMr.out (by omega) (by omega))
        have He : (⟨#[120]⟩ : ByteArray) = bz [120] := rfl
        clear HR HMat HL7 HM7 HW7 HV7 HB7 Hs7 HB
        go_wp2_with (first
          | (go_at_call 27; with_reducible refine HO.out.mono ?_; rintro e w8 ⟨u8, rfl, h1, h2⟩; (have HS8 := Lib.hid (SameProps_any u8 lv (overP L M) (overP L M) w8 h1 (HWant.out.up h2)); have HL8 := Lib.hid (HLr.out.up h2); have HW8 := Lib.hid (HWr.out.up h2); have HB8 := Lib.hid (HBr.out.trans (h2.mono Hsr.out)); have Hs8 := Lib.hid (Nat.le_trans Hsr.out h2.size); clear h1 h2); rw [decide_eq_true rfl] at HS8)
          | (go_at_call 24; with_reducible refine HS8.out.mono ?_; rintro e w9 ⟨rfl, h2⟩; (have HL9 := Lib.hid (HL8.out.up h2); have HW9 := Lib.hid (HW8.out.up h2); have HB9 := Lib.hid (HB8.out.trans (h2.mono Hs8.out)); have Hs9 := Lib.hid (Nat.le_trans Hs8.out h2.size); clear h2))
          | (go_at_call 28; with_reducible refine (Put_any _ L n [120] w9 HL9.out (by omega)).mono ?_; rintro e w10 ⟨u10, rfl, h1, h2⟩; (have HP10 := Lib.hid h1; have HL10 := Lib.hid (HL9.out.up h2); have HW10 := Lib.hid (HW9.out.up h2); have HB10 := Lib.hid (HB9.out.trans (h2.mono Hs9.out)); have Hs10 := Lib.hid (Nat.le_trans Hs9.out h2.size); clear h1 h2))
          | (go_at_call 26; with_reducible refine (RefPut_any _ L n [120] w10 HL10.out (by omega)).mono ?_; rintro e w11 ⟨u11', rfl, h1, h2⟩; (have HS11 := Lib.hid (SameProps_any u10 u11' (putP L n [120]) (putP L n [120]) w11 (HP10.out.up h2) h1); have HL11 := Lib.hid (HL10.out.up h2); have HW11 := Lib.hid (HW10.out.up h2); have HB11 := Lib.hid (HB10.out.trans (h2.mono Hs10.out)); have Hs11 := Lib.hid (Nat.le_trans Hs10.out h2.size); clear h1 h2); rw [decide_eq_true rfl] at HS11)
          | (go_at_call 24; with_reducible refine HS11.out.mono ?_; rintro e w12 ⟨rfl, h2⟩; (have HS12 := Lib.hid (SameProps_any _ _ L L w12 (HL11.out.up h2) (HW11.out.up h2)); have HB12 := Lib.hid (HB11.out.trans (h2.mono Hs11.out)); have Hs12 := Lib.hid (Nat.le_trans Hs11.out h2.size); clear h2); rw [decide_eq_true rfl] at HS12)
          | (go_at_call 24; with_reducible refine HS12.out.mono ?_; rintro e w13 ⟨rfl, h2⟩; (have HB13 := Lib.hid (HB12.out.trans (h2.mono Hs12.out)); have Hs13 := Lib.hid (Nat.le_trans Hs12.out h2.size); clear h2))
          | (go_at_call 17; with_reducible refine (lives_any (m := m) w13 (HM.out.below HB13.out hpos)).mono ?_; rintro e w14 ⟨rfl, h2⟩; (have HB14 := Lib.hid (HB13.out.trans (h2.mono Hs13.out)); clear h2)))
        go_ret
        exact ⟨rfl, HB14.out⟩
end Go.Proofs.Ytpgdioopkcfjdaa
