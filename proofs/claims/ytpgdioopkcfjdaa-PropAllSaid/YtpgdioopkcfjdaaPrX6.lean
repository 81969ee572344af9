/- prop.New. -/
import Derived.Test.YtpgdioopkcfjdaaPrX5
namespace Go.Proofs.Ytpgdioopkcfjdaa
open Go.RowKit

def uniqP (L : PL) : PL := L.foldl (fun a p => if (lookP a p.1).isSome then a else a ++ [p]) []
theorem uniqP_snoc (L : PL) (p : Bs × Bs) : uniqP (L ++ [p]) = if (lookP (uniqP L) p.1).isSome then uniqP L else uniqP L ++ [p] := by
  unfold uniqP; rw [List.foldl_append]; rfl
theorem uniqP_succ (L : PL) (k : Nat) (h : k < L.length) : uniqP (L.take (k + 1)) = if (lookP (uniqP (L.take k)) L[k].1).isSome then uniqP (L.take k) else uniqP (L.take k) ++ [L[k]] := by
  rw [List.take_succ_eq_append_getElem h, uniqP_snoc]
theorem lookP_one (p : Bs × Bs) (s : Bs) : lookP [p] s = if p.1 = s then some p.2 else none := by
  unfold lookP
  by_cases h : p.1 = s <;> simp [h]
theorem lookP_uniq (s : Bs) : ∀ (k : Nat) (L : PL), L.length = k → lookP (uniqP L) s = lookP L s := by
  intro k
  induction k with
  | zero => intro L h; rw [List.eq_nil_of_length_eq_zero h]; rfl
  | succ k ih =>
    intro L h
    obtain ⟨M, p, rfl⟩ : ∃ M p, L = M ++ [p] := ⟨L.dropLast, L.getLast (by intro e; rw [e] at h; simp at h), (List.dropLast_concat_getLast _).symm⟩
    have hM : M.length = k := by simpa using h
    rw [uniqP_snoc, lookP_append, lookP_one]
    split
    · rename_i hs
      rw [ih M hM]
      by_cases he : p.1 = s
      · rw [he, ih M hM] at hs
        rw [Option.or_of_isSome hs]
      · rw [if_neg he]; simp
    · rw [lookP_append, lookP_one, ih M hM]
theorem uniqP_length (L : PL) : (uniqP L).length ≤ L.length := by
  suffices h : ∀ (k : Nat) (L : PL), L.length = k → (uniqP L).length ≤ k from (h _ L rfl)
  intro k
  induction k with
  | zero => intro L h; rw [List.eq_nil_of_length_eq_zero h]; exact Nat.le_refl _
  | succ k ih =>
    intro L h
    obtain ⟨M, p, rfl⟩ : ∃ M p, L = M ++ [p] := ⟨L.dropLast, L.getLast (by intro e; rw [e] at h; simp at h), (List.dropLast_concat_getLast _).symm⟩
    have := ih M (by simpa using h)
    rw [uniqP_snoc]
    split
    · omega
    · simp; omega
section
variable {w w' : World} {B T R Dn : Nat} {lv : Value} {L U : PL} {n v : Bs}
theorem raw_step {w1 : World} (h : TabAt w B T R Dn lv U U []) (hm : MapIs sv w1 R (updF (fun s => (lookP U s).map sv) n (sv v))) (hg : w.grownBy w1 (some R)) (hk : lookP U n = none) : TabAt w1 B T R Dn lv (U ++ [(n, v)]) U [] := by
  obtain ⟨es, c, hR⟩ := h.raw.obj
  have key : ∀ {k : Nat}, k ≠ R → Kp w w1 k := fun {k} hk => (ch_grown hg).kp (fun e => hk (by simpa using e))
  have kT : T ≠ R := by rintro rfl; have := h.hT; rw [hR] at this; cases this
  refine ⟨(key kT).at_ h.hT, ?_, h.dn.kp (key fun e => h.ne e.symm), own_kp h.own fun g hg' => key ?_, h.lo, h.ne, h.small⟩
  · have h2 : (fun s => (lookP (U ++ [(n, v)]) s).map sv) = updF (fun s => (lookP U s).map sv) n (sv v) := by
      funext s
      rw [lookP_snoc U n v s hk]
      unfold updF
      split <;> rfl
    rw [h2]; exact hm
  · rintro rfl
    obtain ⟨c, h3⟩ := own_obj h.own hg'
    rw [hR] at h3; cases h3
theorem row_step {wa w5 : World} {v1 : Value} {U' : PL} (h : TabAt w B T R Dn lv L U []) (ha : Below w.heap.size w wa) (ho : POwn w5 B v1 U') (hg : wa.grownBy w5 lv.ownBlock) : TabAt (w5.setCell ⟨T, 0, none⟩ v1) B T R Dn v1 L U' [] := by
  have c1 : Ch (fun k => some k = lv.ownBlock) w w5 := (ch_new ha _).trans (ch_grown hg)
  have kT : some T ≠ lv.ownBlock := fun e => by
    obtain ⟨c, h3⟩ := own_obj h.own e.symm
    have := h.hT; rw [h3] at this; simp at this
  have hT5 := (c1.kp kT).at_ h.hT
  have c2 : Ch (fun k => k = T ∨ some k = lv.ownBlock) w (w5.setCell ⟨T, 0, none⟩ v1) := (c1.imp fun _ _ e => .inr e).trans ((ch_set w5 T 0 v1).imp fun _ _ e => .inl e)
  have km : ∀ {k : Nat} {es : Array MapEntry} {c : Nat}, w.heap[k]? = some (.map es c) → Kp w (w5.setCell ⟨T, 0, none⟩ v1) k := by
    intro k es c hk
    refine c2.kp fun hd => ?_
    rcases hd with e | e
    · subst e; have := h.hT; rw [hk] at this; cases this
    · obtain ⟨c, h3⟩ := own_obj h.own e.symm; rw [hk] at h3; cases h3
  obtain ⟨es, c, hR⟩ := h.raw.obj
  obtain ⟨es', c', hDn⟩ := h.dn.obj
  refine ⟨?_, h.raw.kp (km hR), h.dn.kp (km hDn), own_kp ho fun g hg' => (ch_set w5 T 0 v1).kp ?_, h.lo, h.ne, h.small⟩
  · have := heap_setCell_same w5 T 0 _ _ v1 hT5
    rw [this]; simp
  · rintro rfl
    obtain ⟨c, h3⟩ := own_obj ho hg'
    rw [hT5] at h3; simp at h3
end
theorem row_cells {w wa w5 : World} {B T R Dn : Nat} {lv : Value} {L U : PL} (h : TabAt w B T R Dn lv L U []) (ha : Below w.heap.size w wa) (hg : wa.grownBy w5 lv.ownBlock) : w5.cell? ⟨T, 0, none⟩ = some lv ∧ w5.frozen? ⟨T, 0, none⟩ = false := by
  have c1 : Ch (fun k => some k = lv.ownBlock) w w5 := (ch_new ha _).trans (ch_grown hg)
  have kT : some T ≠ lv.ownBlock := fun e => by
    obtain ⟨c, h3⟩ := own_obj h.own e.symm
    have := h.hT; rw [h3] at this; simp at this
  have hT5 := (c1.kp kT).at_ h.hT
  exact ⟨cell_of_row _ _ _ _ _ (0, 0) hT5, frozen_of_row _ _ _ _ _ hT5⟩
theorem tab_start (w : World) (B : Nat) (hB : B = w.heap.size) : TabAt (((w.alloc (.map #[] 0)).alloc (.map #[] 0)).alloc (.cells #[.slice none 0 0, .map (some B), .map (some (B + 1)), .int .i64 0] 66)) B (B + 1 + 1) B (B + 1) (.slice none 0 0) [] [] [] := by
  subst hB
  have h1 := MapIs.made sv w
  have h2 := MapIs.made sv (w.alloc (.map #[] 0))
  have h3 := heap_alloc_new ((w.alloc (.map #[] 0)).alloc (.map #[] 0)) (.cells #[.slice none 0 0, .map (some w.heap.size), .map (some (w.heap.size + 1)), .int .i64 0] 66)
  simp only [World.size_alloc] at h2 h3
  have hz : wrap64 ((([] : PL).length : Nat) : Int) = 0 := by unfold wrap64; decide
  refine ⟨by rw [hz]; exact h3, ?_, ?_, POwn.nil _ _, ⟨by omega, Nat.le_refl _, by omega⟩, by omega, by simp⟩
  · exact (h1.kp (kp_new (below_alloc _ _) _)).kp (kp_new (below_alloc _ _) _)
  · exact h2.kp (kp_new (below_alloc _ _) _)
set_option maxHeartbeats 4000000 in
theorem New_any (s : Value) (L : PL) (w : World) (hs : RProps w (Lt w.heap.size) s L) (hl : L.length ≤ 1000) :
    Calls Try.prog 12 #[s] w fun e w' => ∃ T R Dn lv, e = .returned (.pointer (some ⟨T, 0, none⟩)) ∧ TabAt w' w.heap.size T R Dn lv L (uniqP L) [] ∧ Below w.heap.size w w' := by
  have hmm := @run_makeMap Try.prog
  obtain ⟨A, c, rfl, hm, hat⟩ := hs.open_
  have Hat := Lib.hid hat
  clear hat hs
  obtain ⟨B, hB⟩ : ∃ B, B = w.heap.size := ⟨_, rfl⟩
  have HBe := Lib.hid hB
  rw [← hB]
  go_enter Try.func12, Try.ntmps12
  go_wp2
  rw [← hB] at Hat ⊢
  clear hB
  have HS := Lib.hid (tab_start w B HBe.out)
  have HBs := Lib.hid (show Below B w (((w.alloc (.map #[] 0)).alloc (.map #[] 0)).alloc (.cells #[.slice none 0 0, .map (some B), .map (some (B + 1)), .int .i64 0] 66)) by
    rw [HBe.out]
    exact ((below_alloc _ _).alloc (by simp) _).alloc (by simp; omega) _)
  obtain ⟨T, hT⟩ : ∃ T, T = B + 1 + 1 := ⟨_, rfl⟩
  rw [← hT] at HS ⊢
  clear hT
  go_loopw [14] (fun kv wr => ∃ (k : Nat) (lv : Value), k ≤ L.length ∧ kv = .int .i64 k ∧ Hid (TabAt wr B T B (B + 1) lv (uniqP (L.take k)) (uniqP (L.take k)) []) ∧ Hid (Below B w wr)) (fun kv _ => L.length - (intOf kv).toNat)
  case atStart => exact ⟨0, _, Nat.zero_le _, rfl, HS, HBs⟩
  case round =>
    clear HS HBs
    obtain ⟨k, lv, hkle, rfl, HT, HB⟩ := hrel
    rcases Nat.lt_or_ge k L.length with hk | hk
    · obtain ⟨b, off, rfl, hb, c0, c1⟩ := prop_cells (Hat.out.agree (VCells.stable _) (ag_of_below HB.out) (fun _ h => h)) hk
      have hsz : B ≤ wr.heap.size := by rw [HBe.out]; exact HB.out.size
      have Hu := Lib.hid (uniqP_succ L k hk)
      have Hul := Lib.hid (show (uniqP (L.take k)).length ≤ 1000 by have := uniqP_length (L.take k); simp at this; omega)
      generalize uniqP (L.take k) = U at Hu HT Hul
      have hTl : T < wr.heap.size := (Array.getElem?_eq_some_iff.1 HT.out.hT).1
      obtain ⟨t0, t1, -, -, -⟩ := HT.out.cells
      obtain ⟨wx, hwx⟩ : ∃ wx, wx = wr.alloc (.cells #[sv L[k].1, sv L[k].2] 42) := ⟨_, rfl⟩
      have Hwx := Lib.hid hwx
      have HTx := Lib.hid (show TabAt wx B T B (B + 1) lv U U [] by rw [hwx]; exact HT.out.new (below_alloc _ _))
      clear hwx
      cases hq : lookP U L[k].1 with
      | some x =>
        have hlk : ∀ j, (Instr.lookup 59 (.map (some B)) (sv L[k].1) true).run Try.prog (wx.drewN j) = .ok (.tuple #[sv x, .bool true]) (wx.drewN j) := fun j => by
          have h := run_lookup_is strKey Try.underlying59 zeroStr (HTx.out.new (below_drewN (Below.refl _ _) j)).raw L[k].1 true
          rw [hq] at h
          exact h
        rw [Hwx.out] at hlk
        rw [hq] at Hu
        go_wp2
        go_quiet (fail)
        go_wp2
        go_roundw
        case rel =>
          refine ⟨k + 1, lv, by omega, by go_num, Lib.hid ?_, Lib.hid (below_drewN (HB.out.alloc hsz _) _)⟩
          rw [Hu.out.trans (if_pos rfl)]
          exact (HT.out.new (below_alloc _ _)).new (below_drewN (Below.refl _ _) _)
        case measure => simp [intOf]; omega
      | none =>
        have hlk : ∀ j, (Instr.lookup 59 (.map (some B)) (sv L[k].1) true).run Try.prog (wx.drewN j) = .ok (.tuple #[sv [], .bool false]) (wx.drewN j) := fun j => by
          have h := run_lookup_is strKey Try.underlying59 zeroStr (HTx.out.new (below_drewN (Below.refl _ _) j)).raw L[k].1 true
          rw [hq] at h
          exact h
        rw [Hwx.out] at hlk
        rw [hq] at Hu
        have Hq := Lib.hid hq
        clear hq
        go_wp2
        go_quiet (fail)
        go_wp2
        clear hlk
        obtain ⟨wy, hwy⟩ : ∃ wy, wy = (wr.alloc (.cells #[sv L[k].1, sv L[k].2] 42)).drewN nq := ⟨_, rfl⟩
        have HTy := Lib.hid (show TabAt wy B T B (B + 1) lv U U [] by rw [hwy]; exact (HT.out.new (below_alloc _ _)).new (below_drewN (Below.refl _ _) _))
        have HBy := Lib.hid (show Below B w wy by rw [hwy]; exact below_drewN (HB.out.alloc hsz _) _)
        obtain ⟨Q, hQ⟩ : ∃ Q, Q = wr.heap.size := ⟨_, rfl⟩
        have hbx := (show wy.heap[Q]? = some (.cells #[sv L[k].1, sv L[k].2] 42 (0, 0)) by rw [hwy, hQ]; exact heap_alloc_new wr _)
        obtain ⟨x0, x1⟩ := two_cells hbx
        rw [← hwy, ← hQ]
        have HQ := Lib.hid hbx
        clear hwy hQ hbx c0 c1 t0 t1 hTl
        obtain ⟨t0, t1, -, -, -⟩ := HTy.out.cells
        obtain ⟨wz, hmu, hmz, hgz, hsz2⟩ := run_mapUpdate_is (P := Try.prog) strKey Try.underlying59 (w := wy.drew) (HTy.out.new (below_drewN (Below.refl _ _) 1)).raw L[k].1 (sv L[k].2)
        have Hmz := Lib.hid hmz
        have Hgz := Lib.hid hgz
        clear hmz hgz
        go_region
        clear hmu t0 t1 x0 x1 hsz2
        have HTz := Lib.hid (raw_step (HTy.out.new (below_drewN (Below.refl _ _) 1)) Hmz.out Hgz.out Hq.out)
        have hne : Q ≠ B := by
          rintro rfl
          obtain ⟨es, c', hR⟩ := HTy.out.raw.obj
          rw [HQ.out] at hR; cases hR
        have HBz := Lib.hid (HBy.out.drew.grown Hgz.out (show B ≤ wy.heap.size by have := HBy.out.size; rw [HBe.out]; exact this) (fun g hg => by cases hg; exact Nat.le_refl _))
        have HQz := Lib.hid (((ch_grown Hgz.out).kp (k := Q) (fun e => hne (by cases e; rfl))).at_ (show wy.drew.heap[Q]? = _ from HQ.out))
        obtain ⟨x0, x1⟩ := two_cells HQz.out
        obtain ⟨t0, -, -, -, -⟩ := HTz.out.cells
        have f0 := frozen_of_row wz T 0 _ _ HTz.out.hT
        obtain ⟨A1, c1, rfl⟩ := HTz.out.own.shape
        have hTz : T < wz.heap.size := (Array.getElem?_eq_some_iff.1 HTz.out.hT).1
        have hBz : B ≤ wz.heap.size := by have := HBz.out.size; rw [HBe.out]; exact this
        go_wp2
        go_region_law (
            (refine step_pushP (by rfl) _ _ (by rfl) (v := .slice A1 U.length c1) (by rfl) ((show POwn wz B _ U from HTz.out.own).alloc _) wz.heap.size L[k] (by rfl) (two_new _ _ _ _).1 (two_new _ _ _ _).2 (by have := Hul.out; omega) (by simp; omega) ?_
             intro v1 w5 hown1 hg1 hat1
             obtain ⟨A2, c2, rfl⟩ := hown1.shape
             obtain ⟨t0, f0⟩ := row_cells HTz.out (below_alloc wz _).drew hg1))
        all_goals
          have HT5 := row_step HTz.out (below_alloc wz _).drew hown1 hg1
          have el : (U ++ [L[k]]).length = U.length + 1 := by simp
          rw [el] at HT5
          have HT6 := Lib.hid HT5
          have Hu2 := Lib.hid (Hu.out.trans (if_neg (by simp)))
          have HB5 := Lib.hid ((((HBz.out.alloc hBz _).drew.grown hg1 (by simp; omega) (fun g hg => (HTz.out.own.lt g hg).1))).setCell (p := ⟨T, 0, none⟩) (show B ≤ T from HTz.out.lo.1) (.slice A2 (U.length + 1) c2))
          clear HT5 hown1 hg1 hat1 el
          go_wp2
          go_roundw
          case rel => exact ⟨k + 1, _, by omega, by go_num, Lib.hid (by rw [Hu2.out]; exact HT6.out), HB5⟩
          case measure => simp [intOf]; omega
    · obtain rfl : k = L.length := by omega
      have HT2 := HT.out
      rw [List.take_length] at HT2
      go_wp2
      go_ret
      refine ⟨T, B, B + 1, lv, rfl, ?_, HB.out⟩
      refine ⟨HT2.hT, ?_, HT2.dn, HT2.own, HT2.lo, HT2.ne, HT2.small⟩
      have h3 := HT2.raw
      have e : (fun s => (lookP (uniqP L) s).map sv) = (fun s => (lookP L s).map sv) := by funext s; rw [lookP_uniq s _ L rfl]
      rwa [e] at h3
end Go.Proofs.Ytpgdioopkcfjdaa
