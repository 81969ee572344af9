/- work.value: the walk, by induction on how many more may be open. -/
import Derived.Test.YtpgdioopkcfjdaaPrX4
namespace Go.Proofs.Ytpgdioopkcfjdaa
open Go.RowKit

theorem WkAt.cells {w : World} {B Wk T : Nat} {wv : Value} {way : List Bs} (h : WkAt w B Wk T wv way) : w.cell? ⟨Wk, 0, none⟩ = some (.pointer (some ⟨T, 0, none⟩)) ∧ w.cell? ⟨Wk, 1, none⟩ = some wv ∧ w.frozen? ⟨Wk, 1, none⟩ = false :=
  ⟨cell_of_row _ _ _ _ _ (0, 0) h.hW, cell_of_row _ _ _ _ _ (0, 0) h.hW, frozen_of_row _ _ _ _ _ h.hW⟩
theorem TabAt.cells {w : World} {B T R Dn : Nat} {lv : Value} {L U done : PL} (h : TabAt w B T R Dn lv L U done) :
    w.cell? ⟨T, 0, none⟩ = some lv ∧ w.cell? ⟨T, 1, none⟩ = some (.map (some R)) ∧ w.cell? ⟨T, 2, none⟩ = some (.map (some Dn)) ∧ w.cell? ⟨T, 3, none⟩ = some (.int .i64 (wrap64 (done.length : Nat))) ∧ w.frozen? ⟨T, 3, none⟩ = false :=
  ⟨cell_of_row _ _ _ _ _ (0, 0) h.hT, cell_of_row _ _ _ _ _ (0, 0) h.hT, cell_of_row _ _ _ _ _ (0, 0) h.hT, cell_of_row _ _ _ _ _ (0, 0) h.hT, frozen_of_row _ _ _ _ _ h.hT⟩
theorem txs_way {w : World} {B Wk T : Nat} {wv : Value} {way : List Bs} (h : WkAt w B Wk T wv way) : RTxs w (fun _ => True) wv way := txs_of_own h.own fun _ _ => trivial
set_option maxHeartbeats 2000000 in
theorem value_done {B T R Dn : Nat} {lv : Value} {L U : PL} {d : Nat} (way : List Bs) (done : PL) (n v : Bs) (w : World) (Wk : Nat) (wv : Value) (ht : TabAt w B T R Dn lv L U done) (hw : WkAt w B Wk T wv way) (hv : lookP done n = some v) :
    Calls Try.prog 37 #[.pointer (some ⟨Wk, 0, none⟩), sv n] w (Out B T R Dn lv L U Wk wv way w (valP L d way done n)) := by
  rw [valP_done hv]
  have HT := Lib.hid ht
  have HW := Lib.hid hw
  have Hvl := Lib.hid (show v.length ≤ 4096 by
    unfold lookP at hv
    rw [Option.map_eq_some_iff] at hv
    obtain ⟨p, hp, rfl⟩ := hv
    exact ht.small p (List.mem_of_find?_eq_some hp))
  have Hls := Lib.hid (show (Option.map sv (lookP done n)) = some (sv v) by rw [hv]; rfl)
  obtain ⟨k0, -, -⟩ := hw.cells
  obtain ⟨-, -, k2, -, -⟩ := ht.cells
  clear ht hw hv
  go_enter Try.func37, Try.ntmps37
  go_wp2_with (at_lookup; refine wpList_lookup_is (kt := 9) (vt := 9) rfl _ _ _ rfl strKey Try.underlying59 zeroStr rfl n rfl HT.out.dn ?_; rw [if_pos rfl, Hls.out])
  go_ret
  exact ⟨Ch.refl _ _, HT.out, rfl, Hvl.out, wv, HW.out, .refl _ _⟩
set_option maxHeartbeats 2000000 in
theorem value_loop {B T R Dn : Nat} {lv : Value} {L U : PL} {d : Nat} (way : List Bs) (done : PL) (n : Bs) (w : World) (Wk : Nat) (wv : Value) (ht : TabAt w B T R Dn lv L U done) (hw : WkAt w B Wk T wv way) (hv : lookP done n = none) (hin : n ∈ way) :
    Calls Try.prog 37 #[.pointer (some ⟨Wk, 0, none⟩), sv n] w (Out B T R Dn lv L U Wk wv way w (valP L d way done n)) := by
  rw [valP_loop hv hin]
  have HT := Lib.hid ht
  have HW := Lib.hid hw
  have Hls := Lib.hid (show (Option.map sv (lookP done n)) = none by rw [hv]; rfl)
  have Hc := Lib.hid (ContainsT_any wv n way w (txs_way hw))
  rw [show hasT way n = true by unfold hasT; simpa using hin] at Hc
  obtain ⟨k0, k1, -⟩ := hw.cells
  obtain ⟨-, -, k2, -, -⟩ := ht.cells
  clear ht hw hv hin
  go_enter Try.func37, Try.ntmps37
  go_wp2_with (first
    | (at_lookup; refine wpList_lookup_is (kt := 9) (vt := 9) rfl _ _ _ rfl strKey Try.underlying59 zeroStr rfl n rfl HT.out.dn ?_; rw [if_pos rfl, Hls.out])
    | (go_at_call 50; with_reducible refine Hc.out.mono ?_; rintro e w2 ⟨rfl, rfl⟩))
  exact ⟨rfl, Ch.refl _ _, HT.out, rfl⟩
set_option maxHeartbeats 2000000 in
theorem value_big {B T R Dn : Nat} {lv : Value} {L U : PL} (way : List Bs) (done : PL) (n : Bs) (w : World) (Wk : Nat) (wv : Value) (ht : TabAt w B T R Dn lv L U done) (hw : WkAt w B Wk T wv way) (hv : lookP done n = none) (hin : ¬ n ∈ way) (hl : way.length = 32) :
    Calls Try.prog 37 #[.pointer (some ⟨Wk, 0, none⟩), sv n] w (Out B T R Dn lv L U Wk wv way w (valP L 0 way done n)) := by
  rw [valP_big hv hin]
  have HT := Lib.hid ht
  have HW := Lib.hid hw
  have Hls := Lib.hid (show (Option.map sv (lookP done n)) = none by rw [hv]; rfl)
  have Hc := Lib.hid (ContainsT_any wv n way w (txs_way hw))
  rw [show hasT way n = false by unfold hasT; simpa using hin] at Hc
  obtain ⟨k0, k1, -⟩ := hw.cells
  obtain ⟨-, -, k2, -, -⟩ := ht.cells
  obtain ⟨A, c, rfl⟩ := own_shape hw.own
  rw [hl] at *
  clear ht hw hv hin
  go_enter Try.func37, Try.ntmps37
  go_wp2_with (first
    | (at_lookup; refine wpList_lookup_is (kt := 9) (vt := 9) rfl _ _ _ rfl strKey Try.underlying59 zeroStr rfl n rfl HT.out.dn ?_; rw [if_pos rfl, Hls.out])
    | (go_at_call 50; with_reducible refine Hc.out.mono ?_; rintro e w2 ⟨rfl, rfl⟩))
  exact ⟨rfl, Ch.refl _ _, HT.out, rfl⟩
theorem maxAt_ch {m : Int} {w w' : World} {D : Nat → Prop} {B : Nat} (hm : MaxAt m w) (hB : 0 < B) (hc : Ch D w w') (hD : ∀ k, D k → B ≤ k) : MaxAt m w' :=
  (hc.cellK (fun e => by have := hD _ e; omega) hm.lt).trans hm
theorem ch_next {T Dn Wk : Nat} {wv wv1 : Value} {w w6 w7 : World} (h : Ch (ChgV T Dn Wk wv) w w6) (hn : NewOr w wv wv1) (h2 : Ch (ChgV T Dn Wk wv1) w6 w7) : Ch (ChgV T Dn Wk wv) w w7 := h.valueR h2 hn
theorem ch_wk {T Dn Wk : Nat} {wv : Value} {w w7 w8 : World} (h : Ch (ChgV T Dn Wk wv) w w7) (h2 : Ch (fun k => k = Wk) w7 w8) : Ch (ChgV T Dn Wk wv) w w8 := h.trans (h2.imp fun _ _ e => .inr (.inr (.inl e)))
theorem ch_td {T Dn Wk : Nat} {wv : Value} {w w7 w8 : World} (h : Ch (ChgV T Dn Wk wv) w w7) (h2 : Ch (fun k => k = T ∨ k = Dn) w7 w8) : Ch (ChgV T Dn Wk wv) w w8 := h.trans (h2.imp fun _ _ e => e.elim .inl fun e => .inr (.inl e))
theorem own_cap {w : World} {base g cap n : Nat} {t : TypeId} {xs : List Value} (h : w.ownsRow base t 1 (.slice (some ⟨g, 0, none⟩) n cap) n xs) : n ≤ cap := by
  rcases h.2 with ⟨h, _⟩ | ⟨g', cap', cur, h, _, _, hnc, _⟩
  · cases h
  · cases h; exact hnc
theorem upd_cells {w w9 : World} {B T R Dn Wk : Nat} {lv wv : Value} {L U done : PL} {way : List Bs} (ht : TabAt w B T R Dn lv L U done) (hw : WkAt w B Wk T wv way) (hg : w.grownBy w9 (some Dn)) :
    w9.cell? ⟨Wk, 0, none⟩ = some (.pointer (some ⟨T, 0, none⟩)) ∧ w9.cell? ⟨T, 3, none⟩ = some (.int .i64 (wrap64 (done.length : Nat))) ∧ w9.frozen? ⟨T, 3, none⟩ = false := by
  obtain ⟨es', c', hDn⟩ := ht.dn.obj
  have hT9 := ((ch_grown hg).kp (k := T) (fun e => by cases e; have := ht.hT; rw [hDn] at this; cases this)).at_ ht.hT
  have hW9 := ((ch_grown hg).kp (k := Wk) (fun e => by cases e; have := hw.hW; rw [hDn] at this; cases this)).at_ hw.hW
  exact ⟨cell_of_row _ _ _ _ _ (0, 0) hW9, cell_of_row _ _ _ _ _ (0, 0) hT9, frozen_of_row _ _ _ _ _ hT9⟩
theorem newOr_trans {w w' : World} {a b c : Value} (h : NewOr w a b) (h2 : NewOr w' b c) (hs : w.heap.size ≤ w'.heap.size) : NewOr w a c := fun k hk => by
  rcases h2 k hk with e | e
  · exact h k e
  · exact .inr (Nat.le_trans hs e)
theorem tab_ne {w : World} {B T R Dn Wk : Nat} {lv wv : Value} {L U done : PL} {way : List Bs} (ht : TabAt w B T R Dn lv L U done) (hw : WkAt w B Wk T wv way) : ¬ T = Wk := by
  rintro rfl
  have := ht.hT
  rw [hw.hW] at this
  simp at this
theorem push_cells {w w5 : World} {B T R Dn Wk : Nat} {lv wv : Value} {L U done : PL} {way : List Bs} {o : Obj} (ht : TabAt w B T R Dn lv L U done) (hw : WkAt w B Wk T wv way) (hg : (w.alloc o).grownBy w5 wv.ownBlock) :
    w5.cell? ⟨Wk, 0, none⟩ = some (.pointer (some ⟨T, 0, none⟩)) ∧ w5.cell? ⟨Wk, 1, none⟩ = some wv ∧ w5.frozen? ⟨Wk, 1, none⟩ = false ∧ w5.cell? ⟨T, 1, none⟩ = some (.map (some R)) := by
  have c1 : Ch (fun k => some k = wv.ownBlock) w w5 := (ch_new (below_alloc w o) _).trans (ch_grown hg)
  have hW5 := (c1.kp (fun e => wk_ne hw e.symm rfl)).at_ hw.hW
  have hT5 : w5.heap[T]? = _ := (c1.kp (fun e => by
    obtain ⟨c, h3⟩ := own_obj hw.own e.symm
    have := ht.hT
    rw [h3] at this
    simp at this)).at_ ht.hT
  exact ⟨cell_of_row _ _ _ _ _ (0, 0) hW5, cell_of_row _ _ _ _ _ (0, 0) hW5, frozen_of_row _ _ _ _ _ hW5, cell_of_row _ _ _ _ _ (0, 0) hT5⟩
theorem chgv_lo' {w : World} {B T R Dn : Nat} {lv : Value} {L U done : PL} {Wk : Nat} {wv : Value} {way : List Bs} (ht : TabAt w B T R Dn lv L U done) (hw : WkAt w B Wk T wv way) : ∀ k, ChgV T Dn Wk wv k → B ≤ k := chgv_lo ht hw fun g hg => (hw.own.lt g hg).1
set_option maxHeartbeats 8000000 in
theorem value_go {m : Int} {B T R Dn : Nat} {lv : Value} {L U : PL} {d : Nat} (hB : 0 < B) (hL : ∀ p ∈ L, p.2.length ≤ 1000000) (hV : ValOK m B T R Dn lv L U d) (way : List Bs) (done : PL) (n : Bs) (w : World) (Wk : Nat) (wv : Value) (hm : MaxAt m w) (hl : way.length + (d + 1) = 32) (hk : WayOK way done)
    (ht : TabAt w B T R Dn lv L U done) (hw : WkAt w B Wk T wv way) (hv : lookP done n = none) (hin : ¬ n ∈ way) :
    Calls Try.prog 37 #[.pointer (some ⟨Wk, 0, none⟩), sv n] w (Out B T R Dn lv L U Wk wv way w (valP L (d + 1) way done n)) := by
  rw [valP_go hv hin]
  have HT := Lib.hid ht
  have HW := Lib.hid hw
  have HM := Lib.hid hm
  have Hln := Lib.hid hl
  have Hls := Lib.hid (show (Option.map sv (lookP done n)) = none by rw [hv]; rfl)
  have Hc := Lib.hid (ContainsT_any wv n way w (txs_way hw))
  rw [show hasT way n = false by unfold hasT; simpa using hin] at Hc
  have Hk2 := Lib.hid (show WayOK (way ++ [n]) done by
    intro m hm
    rcases List.mem_append.1 hm with hm | hm
    · exact hk m hm
    · simp at hm; subst hm; exact hv)
  obtain ⟨V, hV0⟩ : ∃ V, V = (lookP L n).getD [] := ⟨_, rfl⟩
  rw [← hV0]
  have HVl := Lib.hid (show V.length ≤ 1000000 by
    rw [hV0]
    unfold lookP
    cases hf : L.find? (fun p => p.1 == n) with
    | none => simp
    | some p => exact hL p (List.mem_of_find?_eq_some hf))
  have Hlv := Lib.hid (show (Option.map sv (lookP L n)).getD (sv []) = sv V by rw [hV0]; cases lookP L n <;> rfl)
  clear hV0
  have Hway2 := Lib.hid (txtP_way (L := L) (d := d) (me := n) (acc := []) (s := V) Hk2.out)
  have HV := Lib.hid hV
  obtain ⟨k0, k1, f1⟩ := hw.cells
  obtain ⟨-, kr, k2, -, -⟩ := ht.cells
  obtain ⟨A, c, rfl⟩ := own_shape hw.own
  have hlt : way.length < 32 := by omega
  have hlt2 : way.length + 1 < 9223372036854775808 := by omega
  have Hsz := Lib.hid (show B ≤ w.heap.size by have := hw.lo; have := (Array.getElem?_eq_some_iff.1 hw.hW).1; omega)
  clear ht hw hv hin hl hm hL hk hV
  cases hx : txtP (fun done m => valP L d (way ++ [n]) done m) L n done [] V with
  | mk x dn =>
    rw [hx] at Hway2
    have Hx := Lib.hid hx
    clear hx
    go_enter Try.func37, Try.ntmps37
    go_wp2_with (first
      | (go_at_call 50; with_reducible refine Hc.out.mono ?_; rintro e w2 ⟨rfl, rfl⟩)
      | (at_lookup; refine wpList_lookup_is (kt := 9) (vt := 9) rfl _ _ _ rfl strKey Try.underlying59 zeroStr rfl n rfl HT.out.dn ?_; rw [if_pos rfl, Hls.out])
      | (at_builtin; refine wpList_push rfl _ _ _ rfl eStr (v := .slice A way.length c) rfl (HW.out.own.alloc _) w.heap.size (sv n) rfl (one_new w _ _) rfl (by omega) (by have := Hsz.out; simp; omega) ?_; intro v1 w5 hown1 hg1 hat1
         obtain ⟨A1, c1, rfl⟩ := own_shape hown1
         obtain ⟨j0, j1, g1, jr⟩ := push_cells HT.out HW.out hg1
         obtain ⟨q1, q2, q3, q4⟩ := push_wk HT.out HW.out hown1 hg1 hat1
         have hTW := tab_ne HT.out HW.out
         have HM6 := Lib.hid (maxAt_ch HM.out hB q3 (chgv_lo' HT.out HW.out))
         have HT6 := Lib.hid q1
         have HW6 := Lib.hid q2
         have HC6 := Lib.hid q3
         have HN6 := Lib.hid q4
         clear q1 q2 q3 q4 hown1 hg1 hat1)
      | (at_lookup; refine wpList_lookup_is (kt := 9) (vt := 9) rfl _ _ _ rfl strKey Try.underlying59 zeroStr rfl n rfl HT6.out.raw ?_; rw [if_neg Bool.false_ne_true, Hlv.out]))
    go_at_call 31
    refine (text_any hB HV.out (way ++ [n]) done V n _ Wk _ HM6.out (by have := Hln.out; simp; omega) HT6.out HW6.out Hk2.out HVl.out).mono ?_
    intro e w7 ho
    rw [Hx.out] at ho
    clear k0 k1 f1 kr k2 j0 j1 g1 jr
    cases x with
    | loop n2 =>
      obtain ⟨h1, h2, rfl⟩ := ho
      dsimp only
      exact ⟨rfl, ch_next HC6.out HN6.out h1, h2, rfl⟩
    | big n2 =>
      obtain ⟨h1, h2, rfl⟩ := ho
      dsimp only
      exact ⟨rfl, ch_next HC6.out HN6.out h1, h2, rfl⟩
    | ok v =>
      obtain ⟨h1, h2, rfl, hvl, wv2, h3, h4⟩ := ho
      obtain ⟨k0, k1, f1⟩ := h3.cells
      obtain ⟨-, -, k2, -, -⟩ := h2.cells
      have hown := h3.own
      rw [List.length_append, List.length_singleton] at hown
      obtain ⟨g, cap, rfl, -, -⟩ := hown.form (by omega)
      have hcap := own_cap hown
      have HT7 := Lib.hid h2
      have HW7 := Lib.hid h3
      have HN7 := Lib.hid (show NewOr w _ (.slice (some ⟨g, 0, none⟩) way.length cap) from newOr_trans HN6.out h4 HC6.out.size)
      have HC7 := Lib.hid (ch_next HC6.out HN6.out h1)
      have Hvl := Lib.hid hvl
      clear h1 h2 h3 h4 hvl hown
      have hwr : IntKind.i64.wrap (((way.length + 1 : Nat) : Int) - 1) = (way.length : Nat) := wrap_nat (by omega) (by omega)
      have hwr2 : IntKind.i64.wrap (((way.length : Nat) : Int) + 1 - 1) = (way.length : Nat) := wrap_nat (by omega) (by omega)
      have hwr3 : IntKind.i64.wrap ((way.length : Nat) : Int) = (way.length : Nat) := wrap_nat rfl (by omega)
      have hle1 : way.length ≤ cap := by omega
      go_wp2
      go_region
      obtain ⟨w8, hw8⟩ : ∃ w8, w8 = (w7.setCell ⟨Wk, 1, none⟩ (.slice (some ⟨g, 0, none⟩) way.length cap)).drew := ⟨_, rfl⟩
      rw [← hw8]
      obtain ⟨t8, p8, c8⟩ := pop_wk (w' := w8) HT7.out HW7.out (by rw [hw8]; exact (Below.refl _ _).drew) (by rw [hw8]; simp)
      clear k0 k1 f1 k2 hw8
      obtain ⟨k0, -, -⟩ := p8.cells
      obtain ⟨-, -, k2, -, -⟩ := t8.cells
      have HT8 := Lib.hid t8
      have HW8 := Lib.hid p8
      have HC8 := Lib.hid (ch_wk HC7.out c8)
      clear t8 p8 c8
      go_wp2_with (first
        | (at_mapUpdate; refine wpList_mapUpdate_is (kt := 9) (vt := 9) rfl _ _ _ rfl strKey Try.underlying59 rfl n rfl (sv v) rfl HT8.out.dn ?_
           intro w9 hm9 hg9 hs9
           obtain ⟨e1, e2, e3⟩ := upd_cells HT8.out HW8.out hg9
           have HD := Lib.hid (done_tab HT8.out HW8.out hm9 hg9 (Hway2.out n (by simp)) Hvl.out)
           clear hm9 hg9 hs9)
        | (go_at_call 51; with_reducible refine (Add_any T _ w9 e2 e3).mono ?_; rintro e w10 ⟨rfl, rfl⟩))
      go_ret
      obtain ⟨h1, h2, h3⟩ := HD.out
      exact ⟨ch_td HC8.out h3, h1, rfl, Hvl.out, _, h2, HN7.out⟩
theorem valOK {m : Int} {B T R Dn : Nat} {lv : Value} {L U : PL} (hB : 0 < B) (hL : ∀ p ∈ L, p.2.length ≤ 1000000) : ∀ d, ValOK m B T R Dn lv L U d := by
  intro d
  induction d with
  | zero =>
    intro way done n w Wk wv hm hl _ hk ht hw _
    cases hv : lookP done n with
    | some v => exact value_done way done n v w Wk wv ht hw hv
    | none =>
      by_cases hin : n ∈ way
      · exact value_loop way done n w Wk wv ht hw hv hin
      · exact value_big way done n w Wk wv ht hw hv hin (by omega)
  | succ d ih =>
    intro way done n w Wk wv hm hl _ hk ht hw _
    cases hv : lookP done n with
    | some v => exact value_done way done n v w Wk wv ht hw hv
    | none =>
      by_cases hin : n ∈ way
      · exact value_loop way done n w Wk wv ht hw hv hin
      · exact value_go hB hL ih way done n w Wk wv hm hl hk ht hw hv hin
end Go.Proofs.Ytpgdioopkcfjdaa
