/- The reference's Lines. -/
import Derived.Test.YtgfbmidpiamkhaaDoorQDiR1
namespace Go.Proofs.YtgfbmidpiamkhaaDoor
open Go.RowKit
open C01 D28

def lAt (a : Bs) (i : Nat) : LS := if i ≤ a.length then (a.take i).foldl lstep .start else ⟨linesOf a, endOf a, ([], [])⟩
theorem lAt_zero (a : Bs) : lAt a 0 = .start := by simp [lAt]
theorem lAt_succ {a : Bs} {i : Nat} (h : i < a.length) : lAt a (i + 1) = lstep (lAt a i) a[i] := by
  unfold lAt
  rw [if_pos (by omega), if_pos (by omega), List.take_succ_eq_append_getElem h, List.foldl_append]; rfl
theorem lAt_end (a : Bs) : lAt a (a.length + 1) = ⟨lfin (lAt a a.length), (lAt a a.length).at_ + 1, ([], [])⟩ := by
  unfold lAt
  rw [if_neg (by omega), if_pos (Nat.le_refl _), List.take_length]
  have := at_of a .start
  congr 1
  have e : LS.start.at_ = 1 := rfl
  rw [this, e]; unfold endOf; omega
theorem lAt_fin (a : Bs) : lAt a (a.length + 1) = ⟨linesOf a, endOf a, ([], [])⟩ := by unfold lAt; rw [if_neg (by omega)]
theorem wstep_len (s : WS) (c : UInt8) : (wstep s c).1.length ≤ s.1.length + 1 ∧ (wstep s c).2.length ≤ s.2.length + 1 := by
  unfold wstep
  split
  · split
    · exact ⟨Nat.le_succ _, Nat.le_succ _⟩
    · exact ⟨by simp, by simp⟩
  · exact ⟨Nat.le_succ _, by simp⟩
theorem emitL_len (n : Nat) (W : List Bs) : (emitL n W).length ≤ 1 := by unfold emitL; split <;> simp
theorem lstep_len (s : LS) (c : UInt8) (k : Nat) (h : s.out.length ≤ k ∧ s.at_ ≤ k + 1 ∧ s.ws.1.length ≤ k ∧ s.ws.2.length ≤ k) : (lstep s c).out.length ≤ k + 1 ∧ (lstep s c).at_ ≤ k + 1 + 1 ∧ (lstep s c).ws.1.length ≤ k + 1 ∧ (lstep s c).ws.2.length ≤ k + 1 := by
  obtain ⟨h1, h2, h3, h4⟩ := h
  unfold lstep
  split
  · have := emitL_len s.at_ (wfin s.ws)
    exact ⟨by simp; omega, by simp; omega, by simp, by simp⟩
  · have := wstep_len s.ws c
    exact ⟨by simp; omega, by simp; omega, by simp; omega, by simp; omega⟩
theorem lAt_len (a : Bs) : ∀ i, i ≤ a.length → (lAt a i).out.length ≤ i ∧ (lAt a i).at_ ≤ i + 1 ∧ (lAt a i).ws.1.length ≤ i ∧ (lAt a i).ws.2.length ≤ i
  | 0, _ => by rw [lAt_zero]; simp [LS.start]
  | i + 1, h => by rw [lAt_succ (show i < a.length from h)]; exact lstep_len _ _ _ (lAt_len a i (by omega))
theorem lAt_ne (a : Bs) : ∀ i, i ≤ a.length → ∀ x ∈ (lAt a i).ws.1, x ≠ []
  | 0, _ => by rw [lAt_zero]; simp [LS.start]
  | i + 1, h => by
    rw [lAt_succ (show i < a.length from h)]
    unfold lstep
    split
    · simp
    · exact wstep_ne (lAt_ne a i (by omega))
theorem wfin_ne' {s : WS} (h : ∀ x ∈ s.1, x ≠ []) : ∀ x ∈ wfin s, x ≠ [] := wfin_ne h
theorem wfin_len (s : WS) : (wfin s).length ≤ s.1.length + 1 := by unfold wfin; split <;> simp
theorem heap_two (w : World) (b : Nat) (x y x' y' : Value) {t : TypeId} (h : w.heap[b]? = some (.cells #[x, y] t (0, 0))) : ((w.setCell ⟨b, 0, none⟩ x').setCell ⟨b, 1, none⟩ y').heap[b]? = some (.cells #[x', y'] t (0, 0)) :=
  heap_setCell_same _ b 1 _ _ _ (heap_setCell_same _ b 0 _ _ _ h)
theorem alloc_cells (w : World) (xs : List Value) (t : TypeId) : ∀ j u, xs[j]? = some u → (w.alloc (.cells xs.toArray t (0, 0))).cell? ⟨w.heap.size, j, none⟩ = some u := fun j u hu => (cell_of_row _ _ j _ _ _ (heap_alloc_new _ _)).trans (by simpa using hu)
theorem isI_blank (c : UInt8) : isI (c.toNat : Int) 1 = blankU c := by
  rw [(class_eq (c := (c.toNat : Int)) (by omega) (by have := c.toNat_lt; omega)).1, blank_eq]
def LinesPost (a : Bs) (w : World) (e : Ending) (w' : World) : Prop :=
  ∃ v, e = .returned (.tuple #[v, .int .i64 (endOf a : Nat)]) ∧ RLines w' (Lt w'.heap.size) v (linesOf a) ∧ Below w.heap.size w w'
/-- ahead of byte i -/
def LiAt (a : Bs) (B Nb i : Nat) (v c : Value) (us : List Value) (w0 w : World) : Prop :=
  LL w B v (lAt a i).out us c (lAt a i).ws.1 ∧ w.heap[Nb]? = some (.cells #[.int .i64 ((lAt a i).at_ : Nat), c] 75 (0, 0)) ∧ Below w0.heap.size w0 w
set_option maxRecDepth 100000 in
set_option maxHeartbeats 8000000 in
theorem refLines_any (a : Bs) (w : World) (ha : a.length ≤ 1000000) : Calls Tryd.prog 15 #[sv a] w (LinesPost a w) := by
  have HI := Lib.hid (fun c w => Is_any c 1 w (.inl rfl))
  have Hsz := Lib.hid (show ((bz a).size : Int) = a.length from rfl)
  have hz : (⟨#[]⟩ : ByteArray) = bz [] := rfl
  obtain ⟨Nb, hNb⟩ : ∃ Nb, Nb = w.heap.size := ⟨_, rfl⟩
  have h0 : LiAt a (w.heap.size + 1) w.heap.size 0 (.slice none 0 0) (.slice none 0 0) [] w (w.alloc (.cells #[.int .i64 1, .slice none 0 0] 75)) := by
    unfold LiAt; rw [lAt_zero]; exact ⟨LL.start _ _, heap_alloc_new _ _, below_alloc _ _⟩
  have H0 := Lib.hid h0
  clear h0
  go_enter Tryd.func15, Tryd.ntmps15
  rw [hz]
  go_wp2
  rw [← hNb] at H0 ⊢
  have HNb := Lib.hid hNb
  clear hNb
  go_loopw [7, 6, 4] (fun iv tv lv wr => ∃ (i : Nat) (A Ac : Option Addr) (cl cc : Nat) (us : List Value), i ≤ a.length + 1 ∧ iv = .int .i64 i ∧ tv = sv (lAt a i).ws.2 ∧ lv = .slice A (lAt a i).out.length cl ∧ Hid (LiAt a (Nb + 1) Nb i (.slice A (lAt a i).out.length cl) (.slice Ac (lAt a i).ws.1.length cc) us w wr)) (fun iv _ _ _ => a.length + 1 - (intOf iv).toNat)
  case atStart => exact ⟨0, none, none, 0, 0, [], Nat.zero_le _, rfl, by rw [lAt_zero]; rfl, by rw [lAt_zero]; rfl, by rw [lAt_zero]; exact H0⟩
  case round =>
    obtain ⟨i, A, Ac, cl, cc, us, hi, rfl, rfl, rfl, HLi⟩ := hrel
    by_cases hie : i = a.length + 1
    · subst hie
      have hle : ¬ (((a.length + 1 : Nat) : Int) ≤ ((bz a).size : Int)) := by rw [Hsz.out]; omega
      have hle2 : ¬ ((a.length : Int) + 1 ≤ ((bz a).size : Int)) := by rw [Hsz.out]; omega
      have hH := HLi.out
      unfold LiAt at hH
      rw [lAt_fin] at hH ⊢
      have hx0 : wr.cell? ⟨Nb, 0, none⟩ = some (.int .i64 (endOf a : Nat)) := cell_of_row _ _ 0 _ _ _ hH.2.1
      have HR := Lib.hid (Stable.sub RLines.stable hH.1.reads (S' := Lt wr.heap.size) (fun b h => h.2))
      have HB := Lib.hid hH.2.2
      clear hH HLi
      go_wp2
      go_quiet (fail)
      go_wp2
      go_ret2
      exact ⟨_, rfl, RLines.stable.up HR.out (below_drewN (Below.refl _ _) _), below_drewN HB.out _⟩
    have hil : i ≤ a.length := by omega
    have hlen := lAt_len a i hil
    have Hne := Lib.hid (lAt_ne a i hil)
    obtain ⟨⟨out, at_, ⟨ws, cur⟩⟩, hs⟩ : ∃ s, s = lAt a i := ⟨_, rfl⟩
    unfold LiAt at HLi
    rw [← hs] at HLi hlen Hne ⊢
    dsimp only at HLi hlen Hne ⊢
    have HL := Lib.hid HLi.out.1
    have HC := Lib.hid HLi.out.2.1
    have HW := Lib.hid HLi.out.2.2
    clear HLi
    have hle : (i : Int) ≤ ((bz a).size : Int) := by rw [Hsz.out]; omega
    have hwz := HW.out.size
    have hNz : Nb < wr.heap.size := (Array.getElem?_eq_some_iff.1 HC.out).1
    have hNw : w.heap.size ≤ Nb := Nat.le_of_eq HNb.out.symm
    by_cases hl : i = a.length
    · have heq : ((i : Int) == ((bz a).size : Int)) = true := by rw [Hsz.out, hl]; simp
      have hlt : ¬ (i : Int) < ((bz a).size : Int) := by rw [Hsz.out]; omega
      have Hn := Lib.hid (show lAt a (i + 1) = ⟨out ++ emitL at_ (wfin (ws, cur)), at_ + 1, ([], [])⟩ by rw [hl, lAt_end, ← hl, ← hs]; rfl)
      clear hs hl
      go_upto_if 34 with fail
      go_cut [] (fun wx => ∃ (A2 : Option Addr) (c2 : Nat), Hid (LL wx (Nb + 1) (.slice A out.length cl) out us (.slice A2 (wfin (ws, cur)).length c2) (wfin (ws, cur))) ∧ Hid (wx.heap[Nb]? = some (.cells #[.int .i64 (at_ : Nat), .slice A2 (wfin (ws, cur)).length c2] 75 (0, 0))) ∧ Hid (Below w.heap.size w wx))
      case first =>
        by_cases h0 : cur = []
        · have hc0 : (!((bz cur).toList == (bz []).toList)) = false := by rw [bz_beq, h0]; rfl
          have HL2 := Lib.hid (show LL wr (Nb + 1) (.slice A out.length cl) out us (.slice Ac (wfin (ws, cur)).length cc) (wfin (ws, cur)) by rw [wfin_nil h0]; exact HL.out)
          have HC2 := Lib.hid (show wr.heap[Nb]? = some (.cells #[.int .i64 (at_ : Nat), .slice Ac (wfin (ws, cur)).length cc] 75 (0, 0)) by rw [wfin_nil h0]; exact HC.out)
          have HN0 := Lib.hid h0
          clear h0
          rw [hc0]
          go_wp2
          go_meet
          exact ⟨Ac, cc, HL2, HC2, HW⟩
        · have hc0 : (!((bz cur).toList == (bz []).toList)) = true := by rw [bz_beq]; simpa using h0
          have HF := Lib.hid (wfin_one (s := (ws, cur)) h0)
          have hx1 : wr.cell? ⟨Nb, 1, none⟩ = some (.slice Ac ws.length cc) := cell_of_row _ _ 1 _ _ _ HC.out
          have hf1 : (0, 0) = ((0, 0) : Nat × Nat) := rfl
          clear h0 hf1
          rw [hc0]
          go_wp2_with (at_builtin; refine wpList_push rfl _ _ _ rfl eStr (v := .slice Ac ws.length cc) rfl (World.ownsRow.alloc HL.out.cur _) wr.heap.size (sv cur) rfl (by simp [go_sem]) rfl (by omega) (by simp; omega) ?_; intro v1 w5 hown1 hg1 hat1; obtain ⟨A2, c2, rfl⟩ := own_shape hown1; have HL5 := Lib.hid (HL.out.word (x := cur) (below_alloc wr (.cells #[sv cur] 9)) hown1 hg1 hat1); have HC5 := Lib.hid ((hg1.block Nb (by simp; omega) (fun e => absurd (own_obj HL.out.cur e.symm) (by rintro ⟨q, hq⟩; rw [HC.out] at hq; exact absurd (Obj.cells.inj (Option.some.inj hq)).2.1 (by decide)))).trans ((below_alloc wr (.cells #[sv cur] 9)).block Nb hNz |>.trans HC.out)); have HB5 := Lib.hid ((HW.out.alloc (by omega) (.cells #[sv cur] 9)).grown hg1 (by simp; omega) (fun q hq => Nat.le_trans (by omega) (World.ownsRow.lt HL.out.cur q hq).1)); have hfz := frozen_of_row _ _ 1 _ _ HC5.out; have hcx := cell_of_row _ _ 1 _ _ _ HC5.out; clear hown1 hg1 hat1)
          go_meet
          rw [HF.out, show (ws ++ [cur]).length = ws.length + 1 by simp]
          exact ⟨A2, c2, Lib.hid (HL5.out.keep fun g hg _ => Below.heap_setCell _ ⟨Nb, 1, none⟩ _ g (show g ≠ Nb by omega)), Lib.hid (heap_setCell_same _ Nb 1 _ _ _ HC5.out), Lib.hid (HB5.out.setCell (p := ⟨Nb, 1, none⟩) hNw _)⟩
      case rest =>
        obtain ⟨A2, c2, HL2, HC2, HW2⟩ := hcut
        obtain ⟨W, hW⟩ : ∃ W, W = wfin (ws, cur) := ⟨_, rfl⟩
        have HnW := Lib.hid (show ∀ x ∈ W, x ≠ [] by rw [hW]; exact wfin_ne Hne.out)
        have hWl : W.length ≤ ws.length + 1 := by rw [hW]; exact wfin_len _
        rw [← hW] at HL2 HC2 Hn
        have hNz2 : Nb < wc.heap.size := (Array.getElem?_eq_some_iff.1 HC2.out).1
        have hwz2 := HW2.out.size
        have hx0 : wc.cell? ⟨Nb, 0, none⟩ = some (.int .i64 (at_ : Nat)) := cell_of_row _ _ 0 _ _ _ HC2.out
        have hx1 : wc.cell? ⟨Nb, 1, none⟩ = some (.slice A2 W.length c2) := cell_of_row _ _ 1 _ _ _ HC2.out
        have hfz0 := frozen_of_row _ _ 0 _ _ HC2.out
        have hfz1 := frozen_of_row _ _ 1 _ _ HC2.out
        clear hW HL HC HW hwz hNz Hne

        cases W with
        | nil =>
          have hvl : ¬ (0 : Int) < ((([] : List Bs).length : Nat) : Int) := by simp
          have HX := Lib.hid (Hn.out.trans (show (⟨out ++ emitL at_ [], at_ + 1, ([], [])⟩ : LS) = ⟨out, at_ + 1, ([], [])⟩ by simp [emitL, countsB]))
          clear Hn
          go_wp2
          go_roundw
          case rel => exact ⟨i + 1, A, none, cl, 0, us, by omega, by go_num, by rw [HX.out], by rw [HX.out], Lib.hid (by unfold LiAt; rw [HX.out]; exact ⟨HL2.out.reset.keep fun g hg _ => (Below.heap_setCell _ ⟨Nb, 1, none⟩ _ g (show g ≠ Nb by omega)).trans (Below.heap_setCell _ ⟨Nb, 0, none⟩ _ g (show g ≠ Nb by omega)), heap_two _ _ _ _ _ _ HC2.out, (HW2.out.setCell (p := ⟨Nb, 0, none⟩) hNw _).setCell (p := ⟨Nb, 1, none⟩) hNw _⟩)⟩
          case measure => simp [intOf]; omega
        | cons x V =>
          have hx0' : 0 < (bz x).size := by
            have := HnW.out x (by simp)
            rw [bz_size]; exact List.length_pos_iff.2 this
          have hx00 : (bz x)[0] = x[0]'hx0' := rfl
          have hvl : (0 : Int) < (((x :: V).length : Nat) : Int) := by simp
          have hvl2 : (0 : Int) < ((V.length : Nat) : Int) + 1 := by omega
          obtain ⟨g, cap, cr, hv, hg, hcs⟩ := WAt.of_own HL2.out.cur (by simp)
          cases hv
          have hcx := (cell_of_row _ _ 0 _ _ _ hg).trans (hcs 0 (by simp))
          dsimp only [List.getElem_cons_zero] at hcx
          clear hg hcs
          by_cases h99 : x[0]'hx0' = 99
          · have hb99 : (((bz x)[0].toNat : Int) != 99) = false := by rw [hx00, h99]; rfl
            have HX := Lib.hid (Hn.out.trans (show (⟨out ++ emitL at_ (x :: V), at_ + 1, ([], [])⟩ : LS) = ⟨out, at_ + 1, ([], [])⟩ by
              cases x with
              | nil => cases hx0'
              | cons y ys =>
                have h99 : y = 99 := h99
                subst h99; simp [emitL, countsB]))
            clear h99 hx00 Hn
            go_wp2
            go_roundw
            case rel => exact ⟨i + 1, A, none, cl, 0, us, by omega, by go_num, by rw [HX.out], by rw [HX.out], Lib.hid (by unfold LiAt; rw [HX.out]; exact ⟨HL2.out.reset.keep fun g hg _ => (Below.heap_setCell _ ⟨Nb, 1, none⟩ _ g (show g ≠ Nb by omega)).trans (Below.heap_setCell _ ⟨Nb, 0, none⟩ _ g (show g ≠ Nb by omega)), heap_two _ _ _ _ _ _ HC2.out, (HW2.out.setCell (p := ⟨Nb, 0, none⟩) hNw _).setCell (p := ⟨Nb, 1, none⟩) hNw _⟩)⟩
            case measure => simp [intOf]; omega
          · have hb99 : (((bz x)[0].toNat : Int) != 99) = true := by
              rw [hx00, bne_iff_ne]; intro e; exact h99 (UInt8.toNat_inj.1 (by show (x[0]'hx0').toNat = 99; omega))
            have hcb : countsB (x :: V) = true := by
              cases x with
              | nil => cases hx0'
              | cons y ys =>
                have h99 : y ≠ 99 := h99
                unfold countsB
                split <;> simp_all
            have HX := Lib.hid (Hn.out.trans (show (⟨out ++ emitL at_ (x :: V), at_ + 1, ([], [])⟩ : LS) = ⟨out ++ [(at_, x :: V)], at_ + 1, ([], [])⟩ by rw [emitL, if_pos hcb]))
            clear h99 hx00 hcb Hn
            go_wp2_with (at_builtin; go_loud (refine wpList_pushN rfl _ _ _ rfl eLine (v := .slice A out.length cl) rfl (World.ownsRow.alloc HL2.out.own _) wc.heap.size [.int .i64 (at_ : Nat), .slice (some ⟨g, 0, none⟩) (x :: V).length c2] rfl rfl (alloc_cells _ _ _) (by simp [Value.oneCell']) (by omega) (by simp; omega) ?_; intro v1 w5 hown1 hg1 hat1; obtain ⟨A5, c5, rfl⟩ := own_shape hown1; have HL5 := Lib.hid (HL2.out.emit (below_alloc wc (.cells #[.int .i64 (at_ : Nat), .slice (some ⟨g, 0, none⟩) (x :: V).length c2] 75)) hown1 hg1); have HC5 := Lib.hid ((hg1.block Nb (by simp; omega) (fun e => absurd (own_obj HL2.out.own e.symm) (by rintro ⟨q, hq⟩; have hlo := (World.ownsRow.lt HL2.out.own Nb e.symm).1; omega))).trans ((below_alloc wc (.cells #[.int .i64 (at_ : Nat), .slice (some ⟨g, 0, none⟩) (x :: V).length c2] 75)).block Nb hNz2 |>.trans HC2.out)); have HB5 := Lib.hid ((HW2.out.alloc (by omega) (.cells #[.int .i64 (at_ : Nat), .slice (some ⟨g, 0, none⟩) (x :: V).length c2] 75)).grown hg1 (by simp; omega) (fun q hq => Nat.le_trans (by omega) (World.ownsRow.lt HL2.out.own q hq).1)); have hy0 := cell_of_row _ _ 0 _ _ _ HC5.out; have hy1 := cell_of_row _ _ 1 _ _ _ HC5.out; have hfy0 := frozen_of_row _ _ 0 _ _ HC5.out; have hfy1 := frozen_of_row _ _ 1 _ _ HC5.out; clear hown1 hg1 hat1))
            go_roundw
            case rel => exact ⟨i + 1, A5, none, c5, 0, us ++ [.slice (some ⟨g, 0, none⟩) (x :: V).length c2], by omega, by go_num, by rw [HX.out], by rw [HX.out]; simp, Lib.hid (by unfold LiAt; rw [HX.out]; exact ⟨by rw [show (out ++ [(at_, x :: V)]).length = out.length + 1 by simp]; exact HL5.out.keep fun g hg _ => (Below.heap_setCell _ ⟨Nb, 1, none⟩ _ g (show g ≠ Nb by omega)).trans (Below.heap_setCell _ ⟨Nb, 0, none⟩ _ g (show g ≠ Nb by omega)), heap_two _ _ _ _ _ _ HC5.out, (HB5.out.setCell (p := ⟨Nb, 0, none⟩) hNw _).setCell (p := ⟨Nb, 1, none⟩) hNw _⟩)⟩
            case measure => simp [intOf]; omega
    have hlt : i < a.length := by omega
    have heq : ((i : Int) == ((bz a).size : Int)) = false := by rw [Hsz.out]; simp; omega
    have hib : i < (bz a).size := hlt
    have hn := lAt_succ hlt
    rw [← hs] at hn
    clear hs
    have Hbl := Lib.hid (isI_blank (a[i]'hlt))
    by_cases hbk : blankU (a[i]'hlt) = true
    · have Hbk := Lib.hid hbk
      by_cases h10 : (a[i]'hlt) = 10
      · have heq10 : (((bz a)[i].toNat : Int) == 10) = true := by show (((a[i]'hlt).toNat : Int) == 10) = true; rw [h10]; rfl
        have Hn := Lib.hid (show lAt a (i + 1) = ⟨out ++ emitL at_ (wfin (ws, cur)), at_ + 1, ([], [])⟩ by rw [hn, h10]; rfl)
        clear hn hbk h10
        go_upto_if 34 with (go_at_call 35; refine (HI.out _ _).mono ?_; rintro e w1 ⟨rfl, rfl⟩; rw [show isI ((bz a)[i].toNat : Int) 1 = true from Hbl.out.trans Hbk.out])
        go_cut [] (fun wx => ∃ (A2 : Option Addr) (c2 : Nat), Hid (LL wx (Nb + 1) (.slice A out.length cl) out us (.slice A2 (wfin (ws, cur)).length c2) (wfin (ws, cur))) ∧ Hid (wx.heap[Nb]? = some (.cells #[.int .i64 (at_ : Nat), .slice A2 (wfin (ws, cur)).length c2] 75 (0, 0))) ∧ Hid (Below w.heap.size w wx))
        case first =>
          by_cases h0 : cur = []
          · have hc0 : (!((bz cur).toList == (bz []).toList)) = false := by rw [bz_beq, h0]; rfl
            have HL2 := Lib.hid (show LL wr (Nb + 1) (.slice A out.length cl) out us (.slice Ac (wfin (ws, cur)).length cc) (wfin (ws, cur)) by rw [wfin_nil h0]; exact HL.out)
            have HC2 := Lib.hid (show wr.heap[Nb]? = some (.cells #[.int .i64 (at_ : Nat), .slice Ac (wfin (ws, cur)).length cc] 75 (0, 0)) by rw [wfin_nil h0]; exact HC.out)
            have HN0 := Lib.hid h0
            clear h0
            rw [hc0]
            go_wp2
            go_meet
            exact ⟨Ac, cc, HL2, HC2, HW⟩
          · have hc0 : (!((bz cur).toList == (bz []).toList)) = true := by rw [bz_beq]; simpa using h0
            have HF := Lib.hid (wfin_one (s := (ws, cur)) h0)
            have hx1 : wr.cell? ⟨Nb, 1, none⟩ = some (.slice Ac ws.length cc) := cell_of_row _ _ 1 _ _ _ HC.out
            have hf1 : (0, 0) = ((0, 0) : Nat × Nat) := rfl
            clear h0 hf1
            rw [hc0]
            go_wp2_with (at_builtin; refine wpList_push rfl _ _ _ rfl eStr (v := .slice Ac ws.length cc) rfl (World.ownsRow.alloc HL.out.cur _) wr.heap.size (sv cur) rfl (by simp [go_sem]) rfl (by omega) (by simp; omega) ?_; intro v1 w5 hown1 hg1 hat1; obtain ⟨A2, c2, rfl⟩ := own_shape hown1; have HL5 := Lib.hid (HL.out.word (x := cur) (below_alloc wr (.cells #[sv cur] 9)) hown1 hg1 hat1); have HC5 := Lib.hid ((hg1.block Nb (by simp; omega) (fun e => absurd (own_obj HL.out.cur e.symm) (by rintro ⟨q, hq⟩; rw [HC.out] at hq; exact absurd (Obj.cells.inj (Option.some.inj hq)).2.1 (by decide)))).trans ((below_alloc wr (.cells #[sv cur] 9)).block Nb hNz |>.trans HC.out)); have HB5 := Lib.hid ((HW.out.alloc (by omega) (.cells #[sv cur] 9)).grown hg1 (by simp; omega) (fun q hq => Nat.le_trans (by omega) (World.ownsRow.lt HL.out.cur q hq).1)); have hfz := frozen_of_row _ _ 1 _ _ HC5.out; have hcx := cell_of_row _ _ 1 _ _ _ HC5.out; clear hown1 hg1 hat1)
            go_meet
            rw [HF.out, show (ws ++ [cur]).length = ws.length + 1 by simp]
            exact ⟨A2, c2, Lib.hid (HL5.out.keep fun g hg _ => Below.heap_setCell _ ⟨Nb, 1, none⟩ _ g (show g ≠ Nb by omega)), Lib.hid (heap_setCell_same _ Nb 1 _ _ _ HC5.out), Lib.hid (HB5.out.setCell (p := ⟨Nb, 1, none⟩) hNw _)⟩
        case rest =>
          obtain ⟨A2, c2, HL2, HC2, HW2⟩ := hcut
          obtain ⟨W, hW⟩ : ∃ W, W = wfin (ws, cur) := ⟨_, rfl⟩
          have HnW := Lib.hid (show ∀ x ∈ W, x ≠ [] by rw [hW]; exact wfin_ne Hne.out)
          have hWl : W.length ≤ ws.length + 1 := by rw [hW]; exact wfin_len _
          rw [← hW] at HL2 HC2 Hn
          have hNz2 : Nb < wc.heap.size := (Array.getElem?_eq_some_iff.1 HC2.out).1
          have hwz2 := HW2.out.size
          have hx0 : wc.cell? ⟨Nb, 0, none⟩ = some (.int .i64 (at_ : Nat)) := cell_of_row _ _ 0 _ _ _ HC2.out
          have hx1 : wc.cell? ⟨Nb, 1, none⟩ = some (.slice A2 W.length c2) := cell_of_row _ _ 1 _ _ _ HC2.out
          have hfz0 := frozen_of_row _ _ 0 _ _ HC2.out
          have hfz1 := frozen_of_row _ _ 1 _ _ HC2.out
          clear hW HL HC HW hwz hNz Hne

          cases W with
          | nil =>
            have hvl : ¬ (0 : Int) < ((([] : List Bs).length : Nat) : Int) := by simp
            have HX := Lib.hid (Hn.out.trans (show (⟨out ++ emitL at_ [], at_ + 1, ([], [])⟩ : LS) = ⟨out, at_ + 1, ([], [])⟩ by simp [emitL, countsB]))
            clear Hn
            go_wp2
            go_roundw
            case rel => exact ⟨i + 1, A, none, cl, 0, us, by omega, by go_num, by rw [HX.out], by rw [HX.out], Lib.hid (by unfold LiAt; rw [HX.out]; exact ⟨HL2.out.reset.keep fun g hg _ => (Below.heap_setCell _ ⟨Nb, 1, none⟩ _ g (show g ≠ Nb by omega)).trans (Below.heap_setCell _ ⟨Nb, 0, none⟩ _ g (show g ≠ Nb by omega)), heap_two _ _ _ _ _ _ HC2.out, (HW2.out.setCell (p := ⟨Nb, 0, none⟩) hNw _).setCell (p := ⟨Nb, 1, none⟩) hNw _⟩)⟩
            case measure => simp [intOf]; omega
          | cons x V =>
            have hx0' : 0 < (bz x).size := by
              have := HnW.out x (by simp)
              rw [bz_size]; exact List.length_pos_iff.2 this
            have hx00 : (bz x)[0] = x[0]'hx0' := rfl
            have hvl : (0 : Int) < (((x :: V).length : Nat) : Int) := by simp
            have hvl2 : (0 : Int) < ((V.length : Nat) : Int) + 1 := by omega
            obtain ⟨g, cap, cr, hv, hg, hcs⟩ := WAt.of_own HL2.out.cur (by simp)
            cases hv
            have hcx := (cell_of_row _ _ 0 _ _ _ hg).trans (hcs 0 (by simp))
            dsimp only [List.getElem_cons_zero] at hcx
            clear hg hcs
            by_cases h99 : x[0]'hx0' = 99
            · have hb99 : (((bz x)[0].toNat : Int) != 99) = false := by rw [hx00, h99]; rfl
              have HX := Lib.hid (Hn.out.trans (show (⟨out ++ emitL at_ (x :: V), at_ + 1, ([], [])⟩ : LS) = ⟨out, at_ + 1, ([], [])⟩ by
                cases x with
                | nil => cases hx0'
                | cons y ys =>
                  have h99 : y = 99 := h99
                  subst h99; simp [emitL, countsB]))
              clear h99 hx00 Hn
              go_wp2
              go_roundw
              case rel => exact ⟨i + 1, A, none, cl, 0, us, by omega, by go_num, by rw [HX.out], by rw [HX.out], Lib.hid (by unfold LiAt; rw [HX.out]; exact ⟨HL2.out.reset.keep fun g hg _ => (Below.heap_setCell _ ⟨Nb, 1, none⟩ _ g (show g ≠ Nb by omega)).trans (Below.heap_setCell _ ⟨Nb, 0, none⟩ _ g (show g ≠ Nb by omega)), heap_two _ _ _ _ _ _ HC2.out, (HW2.out.setCell (p := ⟨Nb, 0, none⟩) hNw _).setCell (p := ⟨Nb, 1, none⟩) hNw _⟩)⟩
              case measure => simp [intOf]; omega
            · have hb99 : (((bz x)[0].toNat : Int) != 99) = true := by
                rw [hx00, bne_iff_ne]; intro e; exact h99 (UInt8.toNat_inj.1 (by show (x[0]'hx0').toNat = 99; omega))
              have hcb : countsB (x :: V) = true := by
                cases x with
                | nil => cases hx0'
                | cons y ys =>
                  have h99 : y ≠ 99 := h99
                  unfold countsB
                  split <;> simp_all
              have HX := Lib.hid (Hn.out.trans (show (⟨out ++ emitL at_ (x :: V), at_ + 1, ([], [])⟩ : LS) = ⟨out ++ [(at_, x :: V)], at_ + 1, ([], [])⟩ by rw [emitL, if_pos hcb]))
              clear h99 hx00 hcb Hn
              go_wp2_with (at_builtin; go_loud (refine wpList_pushN rfl _ _ _ rfl eLine (v := .slice A out.length cl) rfl (World.ownsRow.alloc HL2.out.own _) wc.heap.size [.int .i64 (at_ : Nat), .slice (some ⟨g, 0, none⟩) (x :: V).length c2] rfl rfl (alloc_cells _ _ _) (by simp [Value.oneCell']) (by omega) (by simp; omega) ?_; intro v1 w5 hown1 hg1 hat1; obtain ⟨A5, c5, rfl⟩ := own_shape hown1; have HL5 := Lib.hid (HL2.out.emit (below_alloc wc (.cells #[.int .i64 (at_ : Nat), .slice (some ⟨g, 0, none⟩) (x :: V).length c2] 75)) hown1 hg1); have HC5 := Lib.hid ((hg1.block Nb (by simp; omega) (fun e => absurd (own_obj HL2.out.own e.symm) (by rintro ⟨q, hq⟩; have hlo := (World.ownsRow.lt HL2.out.own Nb e.symm).1; omega))).trans ((below_alloc wc (.cells #[.int .i64 (at_ : Nat), .slice (some ⟨g, 0, none⟩) (x :: V).length c2] 75)).block Nb hNz2 |>.trans HC2.out)); have HB5 := Lib.hid ((HW2.out.alloc (by omega) (.cells #[.int .i64 (at_ : Nat), .slice (some ⟨g, 0, none⟩) (x :: V).length c2] 75)).grown hg1 (by simp; omega) (fun q hq => Nat.le_trans (by omega) (World.ownsRow.lt HL2.out.own q hq).1)); have hy0 := cell_of_row _ _ 0 _ _ _ HC5.out; have hy1 := cell_of_row _ _ 1 _ _ _ HC5.out; have hfy0 := frozen_of_row _ _ 0 _ _ HC5.out; have hfy1 := frozen_of_row _ _ 1 _ _ HC5.out; clear hown1 hg1 hat1))
              go_roundw
              case rel => exact ⟨i + 1, A5, none, c5, 0, us ++ [.slice (some ⟨g, 0, none⟩) (x :: V).length c2], by omega, by go_num, by rw [HX.out], by rw [HX.out]; simp, Lib.hid (by unfold LiAt; rw [HX.out]; exact ⟨by rw [show (out ++ [(at_, x :: V)]).length = out.length + 1 by simp]; exact HL5.out.keep fun g hg _ => (Below.heap_setCell _ ⟨Nb, 1, none⟩ _ g (show g ≠ Nb by omega)).trans (Below.heap_setCell _ ⟨Nb, 0, none⟩ _ g (show g ≠ Nb by omega)), heap_two _ _ _ _ _ _ HC5.out, (HB5.out.setCell (p := ⟨Nb, 0, none⟩) hNw _).setCell (p := ⟨Nb, 1, none⟩) hNw _⟩)⟩
              case measure => simp [intOf]; omega
      · have heq10 : (((bz a)[i].toNat : Int) == 10) = false := by
          rw [beq_eq_false_iff_ne]; intro e; exact h10 (UInt8.toNat_inj.1 (by show (a[i]'hlt).toNat = 10; exact Int.ofNat.inj e))
        have Hn := Lib.hid (show lAt a (i + 1) = ⟨out, at_, (wfin (ws, cur), [])⟩ by rw [hn]; unfold lstep; rw [if_neg h10]; simp only [wfin_words hbk])
        clear hn hbk h10
        go_upto_if 34 with (go_at_call 35; refine (HI.out _ _).mono ?_; rintro e w1 ⟨rfl, rfl⟩; rw [show isI ((bz a)[i].toNat : Int) 1 = true from Hbl.out.trans Hbk.out])
        go_cut [] (fun wx => ∃ (A2 : Option Addr) (c2 : Nat), Hid (LL wx (Nb + 1) (.slice A out.length cl) out us (.slice A2 (wfin (ws, cur)).length c2) (wfin (ws, cur))) ∧ Hid (wx.heap[Nb]? = some (.cells #[.int .i64 (at_ : Nat), .slice A2 (wfin (ws, cur)).length c2] 75 (0, 0))) ∧ Hid (Below w.heap.size w wx))
        case first =>
          by_cases h0 : cur = []
          · have hc0 : (!((bz cur).toList == (bz []).toList)) = false := by rw [bz_beq, h0]; rfl
            have HL2 := Lib.hid (show LL wr (Nb + 1) (.slice A out.length cl) out us (.slice Ac (wfin (ws, cur)).length cc) (wfin (ws, cur)) by rw [wfin_nil h0]; exact HL.out)
            have HC2 := Lib.hid (show wr.heap[Nb]? = some (.cells #[.int .i64 (at_ : Nat), .slice Ac (wfin (ws, cur)).length cc] 75 (0, 0)) by rw [wfin_nil h0]; exact HC.out)
            have HN0 := Lib.hid h0
            clear h0
            rw [hc0]
            go_wp2
            go_meet
            exact ⟨Ac, cc, HL2, HC2, HW⟩
          · have hc0 : (!((bz cur).toList == (bz []).toList)) = true := by rw [bz_beq]; simpa using h0
            have HF := Lib.hid (wfin_one (s := (ws, cur)) h0)
            have hx1 : wr.cell? ⟨Nb, 1, none⟩ = some (.slice Ac ws.length cc) := cell_of_row _ _ 1 _ _ _ HC.out
            have hf1 : (0, 0) = ((0, 0) : Nat × Nat) := rfl
            clear h0 hf1
            rw [hc0]
            go_wp2_with (at_builtin; refine wpList_push rfl _ _ _ rfl eStr (v := .slice Ac ws.length cc) rfl (World.ownsRow.alloc HL.out.cur _) wr.heap.size (sv cur) rfl (by simp [go_sem]) rfl (by omega) (by simp; omega) ?_; intro v1 w5 hown1 hg1 hat1; obtain ⟨A2, c2, rfl⟩ := own_shape hown1; have HL5 := Lib.hid (HL.out.word (x := cur) (below_alloc wr (.cells #[sv cur] 9)) hown1 hg1 hat1); have HC5 := Lib.hid ((hg1.block Nb (by simp; omega) (fun e => absurd (own_obj HL.out.cur e.symm) (by rintro ⟨q, hq⟩; rw [HC.out] at hq; exact absurd (Obj.cells.inj (Option.some.inj hq)).2.1 (by decide)))).trans ((below_alloc wr (.cells #[sv cur] 9)).block Nb hNz |>.trans HC.out)); have HB5 := Lib.hid ((HW.out.alloc (by omega) (.cells #[sv cur] 9)).grown hg1 (by simp; omega) (fun q hq => Nat.le_trans (by omega) (World.ownsRow.lt HL.out.cur q hq).1)); have hfz := frozen_of_row _ _ 1 _ _ HC5.out; have hcx := cell_of_row _ _ 1 _ _ _ HC5.out; clear hown1 hg1 hat1)
            go_meet
            rw [HF.out, show (ws ++ [cur]).length = ws.length + 1 by simp]
            exact ⟨A2, c2, Lib.hid (HL5.out.keep fun g hg _ => Below.heap_setCell _ ⟨Nb, 1, none⟩ _ g (show g ≠ Nb by omega)), Lib.hid (heap_setCell_same _ Nb 1 _ _ _ HC5.out), Lib.hid (HB5.out.setCell (p := ⟨Nb, 1, none⟩) hNw _)⟩
        case rest =>
          obtain ⟨A2, c2, HL2, HC2, HW2⟩ := hcut
          obtain ⟨W, hW⟩ : ∃ W, W = wfin (ws, cur) := ⟨_, rfl⟩
          have HnW := Lib.hid (show ∀ x ∈ W, x ≠ [] by rw [hW]; exact wfin_ne Hne.out)
          have hWl : W.length ≤ ws.length + 1 := by rw [hW]; exact wfin_len _
          rw [← hW] at HL2 HC2 Hn
          have hNz2 : Nb < wc.heap.size := (Array.getElem?_eq_some_iff.1 HC2.out).1
          have hwz2 := HW2.out.size
          have hx0 : wc.cell? ⟨Nb, 0, none⟩ = some (.int .i64 (at_ : Nat)) := cell_of_row _ _ 0 _ _ _ HC2.out
          have hx1 : wc.cell? ⟨Nb, 1, none⟩ = some (.slice A2 W.length c2) := cell_of_row _ _ 1 _ _ _ HC2.out
          have hfz0 := frozen_of_row _ _ 0 _ _ HC2.out
          have hfz1 := frozen_of_row _ _ 1 _ _ HC2.out
          clear hW HL HC HW hwz hNz Hne

          clear hx0 hx1 hfz0 hfz1
          go_wp2
          go_roundw
          case rel => exact ⟨i + 1, A, A2, cl, c2, us, by omega, by go_num, by rw [Hn.out], by rw [Hn.out], Lib.hid (by unfold LiAt; rw [Hn.out]; exact ⟨HL2.out, HC2.out, HW2.out⟩)⟩
          case measure => simp [intOf]; omega
    have hbf : blankU (a[i]'hlt) = false := by simpa using hbk
    have Hbf := Lib.hid hbf
    have Hn := Lib.hid (show lAt a (i + 1) = ⟨out, at_, (ws, cur ++ [(a[i]'hlt)])⟩ by
      rw [hn]; unfold lstep wstep
      rw [if_neg (by intro e; rw [e] at hbf; exact absurd hbf (by decide)), if_neg (by simpa using hbf)])
    have hext : bz cur ++ (bz a).extract i (i + 1) = bz (cur ++ [(a[i]'hlt)]) := by
      rw [bz_ext, bz_append]; congr 1; rw [show i + 1 - i = 1 by omega, List.drop_eq_getElem_cons hlt]; rfl
    have hszb : ¬ 9223372036854775807 < (bz cur).size + (min (i + 1) (bz a).size - i) := by rw [bz_size, bz_size]; omega
    clear hbk hbf hn
    go_wp2_with (go_at_call 35; refine (HI.out _ _).mono ?_; rintro e w1 ⟨rfl, rfl⟩; rw [show isI ((bz a)[i].toNat : Int) 1 = false from Hbl.out.trans Hbf.out])
    go_roundw
    case rel => exact ⟨i + 1, A, Ac, cl, cc, us, by omega, by go_num, by rw [Hn.out], by rw [Hn.out], Lib.hid (by unfold LiAt; rw [Hn.out]; exact ⟨HL.out, HC.out, HW.out⟩)⟩
    case measure => simp [intOf]; omega
end Go.Proofs.YtgfbmidpiamkhaaDoor
