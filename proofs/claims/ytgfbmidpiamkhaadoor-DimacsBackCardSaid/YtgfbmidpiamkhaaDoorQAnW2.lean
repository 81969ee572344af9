/- dimacs.truths: the truths of a line. -/
import Derived.Test.YtgfbmidpiamkhaaDoorZc
import Derived.Test.YtgfbmidpiamkhaaDoorZd
namespace Go.Proofs.YtgfbmidpiamkhaaDoor
open Go.RowKit
open C01 D28

def TruthsPost (W : List Bs) (n : Int) (w : World) (e : Ending) (w' : World) : Prop :=
  Below w.heap.size w w' ∧ match truthsW W with
  | some t => ∃ v, e = .returned v ∧ RBools w' (fun b => w.heap.size ≤ b ∧ b < w'.heap.size) v t
  | none => e = .panicked (flt 1 n)
theorem TruthsPost.bad {W : List Bs} {n : Int} {w w' : World} (h : truthsW W = none) (hb : Below w.heap.size w w') : TruthsPost W n w (.panicked (flt 1 n)) w' := ⟨hb, by rw [h]⟩
abbrev bV (b : Bool) : Value := .bool b
def rowB (l : List Bool) (N : Nat) : List Value := l.map bV ++ List.replicate (N - l.length) (.bool false)
theorem rowB_set {l : List Bool} {N : Nat} (h : l.length < N) (b : Bool) : (rowB l N).set l.length (.bool b) = rowB (l ++ [b]) N := by
  unfold rowB
  rw [List.set_append_right _ _ (by simp), show N - l.length = (N - (l ++ [b]).length) + 1 by simp; omega, List.replicate_succ]
  simp
theorem vB_eq : (⟨#[118]⟩ : ByteArray) = bz [118] := rfl
theorem zB_eq : (⟨#[48]⟩ : ByteArray) = bz [48] := rfl
set_option maxRecDepth 100000 in
set_option maxHeartbeats 8000000 in
theorem truths_any (W : List Bs) (v : Value) (n : Int) (w : World) (hW : WAt w v W) (hl : W.length ≤ 1000000) : Calls Tryd.prog 42 #[v, .int .i64 n] w (TruthsPost W n w) := by
  have HF := Lib.hid (fun w => fail_any 1 n w)
  obtain ⟨g, cap, cur, rfl, hg, hcs⟩ := hW
  have Hg := Lib.hid hg
  have Hcs := Lib.hid hcs
  have hgl := (Array.getElem?_eq_some_iff.1 hg).1
  have Hgl := Lib.hid hgl
  obtain ⟨L, hL⟩ : ∃ L, L = W.length := ⟨_, rfl⟩
  have HL := Lib.hid hL
  rw [← hL] at hl ⊢
  clear hg hgl hL hcs
  by_cases h2 : L < 2
  · have hP := Lib.hid (TruthsPost.bad (n := n) (w := w) (W := W) (by unfold truthsW; rw [if_pos (.inl (by rw [← HL.out]; exact h2))]) (Below.refl _ w))
    have hl2 : (L : Int) < 2 := by omega
    clear h2
    go_enter Tryd.func42, Tryd.ntmps42
    go_wp2_with (go_at_call 31; refine (HF.out _).mono ?_; rintro e w1 ⟨rfl, rfl⟩)
    exact ⟨rfl, hP.out⟩
  have hl2 : ¬ (L : Int) < 2 := by omega
  have hl3 : decide ((L : Int) < 2) = false := decide_eq_false hl2
  have h0L : 0 < W.length := by rw [← HL.out]; omega
  have hzL : L - 1 < W.length := by rw [← HL.out]; omega
  have c0 := (cell_of_row _ _ 0 _ _ _ Hg.out).trans (Hcs.out 0 h0L)
  have cz := (cell_of_row _ _ (L - 1) _ _ _ Hg.out).trans (Hcs.out (L - 1) hzL)
  have hws : IntKind.i64.wrap ((L : Int) - 1) = ((L - 1 : Nat) : Int) := by rw [IntKind.wrap_i64]; omega
  have hi1 : (0 : Int) ≤ ((L - 1 : Nat) : Int) := by omega
  have hi2 : ((L - 1 : Nat) : Int) < (L : Int) := by omega
  have hi3 : (0 : Int) < (L : Int) := by omega
  obtain ⟨x0, hx0⟩ : ∃ x, x = W[0] := ⟨_, rfl⟩
  obtain ⟨xz, hxz⟩ : ∃ x, x = W[L - 1] := ⟨_, rfl⟩
  rw [← hx0] at c0
  rw [← hxz] at cz
  have Hbad0 := Lib.hid (show x0 ≠ [118] → truthsW W = none from fun h => by unfold truthsW; rw [if_pos (.inr (.inl (by rw [List.getElem?_eq_getElem h0L, ← hx0]; simpa using h)))])
  have Hbadz := Lib.hid (show xz ≠ [48] → truthsW W = none from fun h => by unfold truthsW; rw [if_pos (.inr (.inr (by rw [← HL.out, List.getElem?_eq_getElem hzL, ← hxz]; simpa using h)))])
  have Hok := Lib.hid (show x0 = [118] → xz = [48] → truthsW W = tfold (tbody W) from fun h1 h2' => by
    unfold truthsW
    rw [if_neg]
    rintro (h | h | h)
    · rw [← HL.out] at h; omega
    · rw [List.getElem?_eq_getElem h0L, ← hx0, h1] at h; exact h rfl
    · rw [← HL.out, List.getElem?_eq_getElem hzL, ← hxz, h2'] at h; exact h rfl)
  clear hx0 hxz h2
  obtain ⟨z, hz⟩ : ∃ z, z = L - 1 := ⟨_, rfl⟩
  rw [← hz] at cz hws hi1 hi2
  have Hz := Lib.hid hz
  clear hz h0L hzL
  by_cases hv : x0 = [118]
  case neg =>
    have k0 := eq_no hv
    have k0' : (!((bz x0).toList == (bz [118]).toList)) = true := by rw [k0]; rfl
    have hP := Lib.hid (TruthsPost.bad (n := n) (Hbad0.out hv) (Below.refl _ w))
    clear hv
    go_enter Tryd.func42, Tryd.ntmps42
    rw [vB_eq, zB_eq]
    go_wp2_with (go_at_call 31; refine (HF.out _).mono ?_; rintro e w1 ⟨rfl, rfl⟩)
    exact ⟨rfl, hP.out⟩
  have k0 := eq_yes hv
  have k0' : (!((bz x0).toList == (bz [118]).toList)) = false := by rw [k0]; rfl
  by_cases hzz : xz = [48]
  case neg =>
    have k1 := eq_no hzz
    have k1' : (!((bz xz).toList == (bz [48]).toList)) = true := by rw [k1]; rfl
    have hP := Lib.hid (TruthsPost.bad (n := n) (Hbadz.out hzz) (Below.refl _ w))
    clear hv hzz
    go_enter Tryd.func42, Tryd.ntmps42
    rw [vB_eq, zB_eq]
    go_wp2_with (go_at_call 31; refine (HF.out _).mono ?_; rintro e w1 ⟨rfl, rfl⟩)
    exact ⟨rfl, hP.out⟩
  have k1 := eq_yes hzz
  have k1' : (!((bz xz).toList == (bz [48]).toList)) = false := by rw [k1]; rfl
  have HT := Lib.hid (Hok.out hv hzz)
  clear hv hzz
  obtain ⟨N, hN⟩ : ∃ N, N = L - 2 := ⟨_, rfl⟩
  have hwN : IntKind.i64.wrap ((L : Int) - 2) = (N : Int) := by rw [IntKind.wrap_i64]; omega
  have HN := Lib.hid (show (tbody W).length = N by rw [tbody_len, hN, HL.out])
  have hNL : N + 2 = L := by omega
  have HNL := Lib.hid hNL
  have hNl : N ≤ 1000000 := by omega
  have hmk := fun (W : World) => run_makeN (P := Tryd.prog) (bytes := 1) (z := .bool false) Tryd.underlying45 (by kernel_rfl) (by omega) rfl N (by omega) W
  have hown := own_made w 4 (.bool false) N (by omega)
  have HB0 := Lib.hid (below_alloc w (.cells (madeCells #[.bool false] N) 4))
  have HW := Lib.hid (show ∀ (k : Nat), k < N → ∃ h : k < (tbody W).length, cur[k + 1]? = some (sv (tbody W)[k]) from fun k hk => ⟨by rw [HN.out]; exact hk, by rw [tbody_get]; exact Hcs.out (k + 1) (by rw [← HL.out]; omega)⟩)
  obtain ⟨D, hD⟩ : ∃ D, D = w.heap.size := ⟨_, rfl⟩
  have HD := Lib.hid hD
  have Hown := Lib.hid (show (w.alloc (.cells (madeCells #[.bool false] N) 4)).ownsRow D 4 1 (.slice (some ⟨D, 0, none⟩) N N) N (rowB [] N) by rw [hD]; simpa [rowB] using hown)
  obtain ⟨w0, hw0⟩ : ∃ w0, w0 = w.alloc (.cells (madeCells #[.bool false] N) 4) := ⟨_, rfl⟩
  rw [← hw0] at HB0 Hown
  have Hw0 := Lib.hid hw0
  clear hown hN hw0 hD hNL
  go_enter Tryd.func42, Tryd.ntmps42
  rw [vB_eq, zB_eq]
  go_wp2_with fail
  rw [← Hw0.out, ← HD.out]
  have Hbad := Lib.hid (show ∀ k w', tfold ((tbody W).take k) = none → Below w.heap.size w w' → TruthsPost W n w (.panicked (flt 1 n)) w' from fun k w' h hb => TruthsPost.bad (HT.out.trans (tfold_bad h)) hb)
  have HPr := Lib.hid (fun a w => parse_any a n w)
  clear hmk c0 cz k0 k0' k1 k1' hws hwN hi1 hi2 hi3 hl2 hl3
  go_loopw [34] (fun iv wr => ∃ (k : Nat) (l : List Bool), k ≤ N ∧ iv = .int .i64 k ∧ Hid (l.length = k) ∧ Hid (tfold ((tbody W).take k) = some l) ∧ Hid (wr.ownsRow D 4 1 (.slice (some ⟨D, 0, none⟩) N N) N (rowB l N)) ∧ Hid (Below w.heap.size w wr)) (fun iv _ => N - (intOf iv).toNat)
  case atStart => exact ⟨0, [], Nat.zero_le _, rfl, Lib.hid rfl, Lib.hid rfl, Hown, HB0⟩
  case round =>
    obtain ⟨wk, hwk⟩ : ∃ w0 : World, w0 = wr := ⟨_, rfl⟩
    rw [← hwk] at hrel ⊢
    clear hwk
    obtain ⟨k, l, hk, rfl, Hll, HTk, HO, HB⟩ := hrel
    rcases Nat.lt_or_ge k N with hlt | hge
    · obtain ⟨hkt, hcw⟩ := HW.out k hlt
      have hc : wk.cell? ⟨g, k + 1, none⟩ = some (sv (tbody W)[k]) := (cell_of_row _ _ (k + 1) _ _ _ ((HB.out.block g Hgl.out).trans Hg.out)).trans hcw
      have Hs := Lib.hid ((tfold_succ hkt).trans (by rw [HTk.out]))
      obtain ⟨x, hx⟩ : ∃ x, x = (tbody W)[k] := ⟨_, rfl⟩
      rw [← hx] at hc Hs
      clear hx hcw hkt
      have hw1 : IntKind.i64.wrap ((k : Int) + 1) = (k : Int) + 1 := by rw [IntKind.wrap_i64]; omega
      have hc' : wk.cell? ⟨g, ((k : Int) + 1).toNat, none⟩ = some (sv x) := by rw [show ((k : Int) + 1).toNat = k + 1 by omega]; exact hc
      have hi1 : (0 : Int) ≤ (k : Int) + 1 := by omega
      have hi2 : (k : Int) + 1 < (L : Int) := by have := HNL.out; omega
      have hzk := HB.out.size
      cases hp : parseL x with
      | none =>
        have HQ := Lib.hid ((HPr.out x wk).mono (R' := fun e w' => e = .panicked (flt 1 n) ∧ Below wk.heap.size wk w') (fun e w' h => by unfold ParsePost at h; rw [hp] at h; exact h))
        have Hn := Lib.hid (Hs.out.trans (show tstep (some l) x = none by simp [tstep, hp]))
        clear hp Hs
        go_wp2_with (go_at_call 30; refine HQ.out.mono ?_; rintro e w2 ⟨rfl, hb2⟩)
        exact ⟨rfl, Hbad.out _ _ Hn.out (HB.out.trans (hb2.mono hzk))⟩
      | some y =>
        have hyr := parseL_range hp
        have HQ := Lib.hid ((HPr.out x wk).mono (R' := fun e w' => e = .returned (.int .i64 y) ∧ Below wk.heap.size wk w') (fun e w' h => by unfold ParsePost at h; rw [hp] at h; exact h))
        have hwy : IntKind.i64.wrap (-y) = -y := by rw [IntKind.wrap_i64]; omega
        have Hs2 := Lib.hid (Hs.out.trans (show tstep (some l) x = if y = (k : Int) + 1 ∨ y = -((k : Int) + 1) then some (l ++ [decide (0 < y)]) else none by simp only [tstep, hp, Hll.out]))
        clear hp Hs
        by_cases hy : y = (k : Int) + 1 ∨ y = -((k : Int) + 1)
        · have Hn := Lib.hid (Hs2.out.trans (if_pos hy))
          have Hst := Lib.hid (show ∀ w2, Below wk.heap.size wk w2 → w2.cell? ⟨D, k, none⟩ = some (.bool false) ∧ w2.frozen? ⟨D, k, none⟩ = false ∧ Hid ((w2.setCell ⟨D, k, none⟩ (.bool (decide (0 < y)))).ownsRow D 4 1 (.slice (some ⟨D, 0, none⟩) N N) N (rowB (l ++ [decide (0 < y)]) N)) ∧ Hid (Below w.heap.size w (w2.setCell ⟨D, k, none⟩ (.bool (decide (0 < y))))) from fun w2 hb2 => by
            have ho2 := own_ag HO.out (w' := w2) fun g hg' => hb2.block g (HO.out.lt g hg').2
            obtain ⟨q2, hq2⟩ := own_obj ho2 (g := D) rfl
            have hcell : w2.cell? ⟨D, k, none⟩ = some (.bool false) := by
              rw [ho2.cellAt k (by omega)]
              unfold rowB
              rw [List.getElem?_append_right (by simp [Hll.out]), List.getElem?_replicate, if_pos (by simp [Hll.out]; omega)]
            refine ⟨hcell, frozen_of_row _ _ _ _ _ hq2, Lib.hid ?_, Lib.hid ((HB.out.trans (hb2.mono hzk)).setCell (p := ⟨D, k, none⟩) (Nat.le_of_eq HD.out.symm) _)⟩
            have h1 := own_set1 ho2 k (.bool (decide (0 < y)))
            have h2 := rowB_set (l := l) (N := N) (by rw [Hll.out]; exact hlt) (decide (0 < y))
            rw [Hll.out] at h2
            rw [h2] at h1
            exact h1)
          have Hl1 := Lib.hid (show (l ++ [decide (0 < y)]).length = k + 1 by simp [Hll.out])
          rcases hy with hy | hy
          · have hmx : ¬ y < -y := by omega
            have hne : (y != (k : Int) + 1) = false := by simp; omega
            clear Hs2 hy
            go_wp2_with (go_at_call 30; refine HQ.out.mono ?_; rintro e w2 ⟨rfl, hb2⟩; obtain ⟨q1, q2, q3, q4⟩ := Hst.out w2 hb2; clear hb2)
            go_roundw
            case rel => exact ⟨k + 1, _, by omega, by go_num, Hl1, Hn, q3, q4⟩
            case measure => simp [intOf]; omega
          · have hmx : y < -y := by omega
            have hne : (-y != (k : Int) + 1) = false := by simp; omega
            clear Hs2 hy
            go_wp2_with (go_at_call 30; refine HQ.out.mono ?_; rintro e w2 ⟨rfl, hb2⟩; obtain ⟨q1, q2, q3, q4⟩ := Hst.out w2 hb2; clear hb2)
            go_roundw
            case rel => exact ⟨k + 1, _, by omega, by go_num, Hl1, Hn, q3, q4⟩
            case measure => simp [intOf]; omega
        · have Hn := Lib.hid (Hs2.out.trans (if_neg hy))
          clear Hs2
          rcases Int.lt_or_le y (-y) with hmx | hmx
          · have hne : (-y != (k : Int) + 1) = true := by simp; omega
            clear hy
            go_wp2_with (first
              | (go_at_call 30; refine HQ.out.mono ?_; rintro e w2 ⟨rfl, hb2⟩; have HB2 := Lib.hid (HB.out.trans (hb2.mono hzk)); clear hb2)
              | (go_at_call 31; refine (HF.out _).mono ?_; rintro e w1 ⟨rfl, rfl⟩))
            exact ⟨rfl, Hbad.out _ _ Hn.out HB2.out⟩
          · have hne : (y != (k : Int) + 1) = true := by simp; omega
            have hmx' : ¬ y < -y := by omega
            clear hy
            go_wp2_with (first
              | (go_at_call 30; refine HQ.out.mono ?_; rintro e w2 ⟨rfl, hb2⟩; have HB2 := Lib.hid (HB.out.trans (hb2.mono hzk)); clear hb2)
              | (go_at_call 31; refine (HF.out _).mono ?_; rintro e w1 ⟨rfl, rfl⟩))
            exact ⟨rfl, Hbad.out _ _ Hn.out HB2.out⟩
    · obtain rfl : k = N := by omega
      have HE := Lib.hid (show truthsW W = some l by rw [HT.out]; have := HTk.out; rwa [← HN.out, List.take_length] at this)
      have HRd := Lib.hid (show RBools wk (fun b => w.heap.size ≤ b ∧ b < wk.heap.size) (.slice (some ⟨D, 0, none⟩) k k) l from by
        have h1 := HO.out
        rw [← Hll.out] at h1
        simp only [rowB, Nat.sub_self, List.replicate_zero, List.append_nil] at h1
        have h2 := bools_of_own (S := fun b => w.heap.size ≤ b ∧ b < wk.heap.size) h1 fun g hg => by have := World.ownsRow.lt h1 g hg; rw [HD.out] at this; exact this
        rwa [Hll.out] at h2)
      go_wp2
      go_ret
      exact ⟨HB.out, by rw [HE.out]; exact ⟨_, rfl, HRd.out⟩⟩
end Go.Proofs.YtgfbmidpiamkhaaDoor
