/- dimacs.PrintAnswer. -/
import Derived.Test.YtgfbmidpiamkhaaDoorQAnP1
namespace Go.Proofs.YtgfbmidpiamkhaaDoor
open Go.RowKit
open C01 D28

def tnum (t : Bool) (i : Nat) : Int := if t then (i : Int) + 1 else -((i : Int) + 1)
def rowN (l : List Int) (N : Nat) : List Value := l.map nV ++ List.replicate (N - l.length) (nV 0)
theorem rowN_set {l : List Int} {N : Nat} (h : l.length < N) (b : Int) : (rowN l N).set l.length (nV b) = rowN (l ++ [b]) N := by
  unfold rowN
  rw [List.set_append_right _ _ (by simp), show N - l.length = (N - (l ++ [b]).length) + 1 by simp; omega, List.replicate_succ]
  simp
theorem set_set_row {l : List Value} (k : Nat) (a b : Value) : (l.set k a).set k b = l.set k b := by simp
/-- the row of numbers stays while the builder is written -/
theorem stays_row {B b g : Nat} {w : World} {v : Value} {base : Nat} {c : List Int} (h : w.ownsRow base 3 1 v c.length (c.map nV)) (hv : v.ownBlock = some g) (hgb : g ≠ b) : Stays B b w v c := fun w' _ ho => by
  obtain ⟨q, hq⟩ := own_obj h hv
  have h1 := ho g _ hq (fun e => hgb (Option.some.inj e)) (fun cs fr e => by have := (Obj.cells.inj e).2.1; exact absurd this (by decide))
  exact ⟨fun _ => True, ints_of_own (own_ag h fun g' hg' => by rw [hv] at hg'; cases hg'; rw [h1, hq]) fun _ _ => trivial⟩
set_option maxRecDepth 100000 in
set_option maxHeartbeats 8000000 in
theorem PrintAnswer_any (E C : Int) (vT vP : Value) (T : List Bool) (w : World) (hT : RBools w (Lt w.heap.size) vT T) (hl : T.length ≤ 300) : Calls Tryd.prog 22 #[.agg #[.int .i64 E, vT, vP, .int .i64 C]] w fun e w' => e = .returned (sv (printA E T)) ∧ Below w.heap.size w w' := by
  obtain ⟨w1, hw1⟩ : ∃ w1, w1 = w.alloc (.cells #[.int .i64 E, vT, vP, .int .i64 C] 47) := ⟨_, rfl⟩
  have hb1 : Below w.heap.size w w1 := by rw [hw1]; exact below_alloc _ _
  have hz1 : w1.heap.size = w.heap.size + 1 := by rw [hw1]; simp
  have c0 : w1.cell? ⟨w.heap.size, 0, none⟩ = some (.int .i64 E) := by rw [hw1]; exact box_cell (Below.refl _ _) 0
  have c1 : w1.cell? ⟨w.heap.size, 1, none⟩ = some vT := by rw [hw1]; exact box_cell (Below.refl _ _) 1
  have HW1 := Lib.hid hw1
  have HB1 := Lib.hid hb1
  have Hz1 := Lib.hid hz1
  have z0 : (⟨#[]⟩ : ByteArray) = bz [] := rfl
  have z1 : (⟨#[115, 32, 83, 65, 84, 73, 83, 70, 73, 65, 66, 76, 69, 10]⟩ : ByteArray) = bz sSat := rfl
  have z2 : (⟨#[118, 32]⟩ : ByteArray) = bz [118, 32] := rfl
  have z3 : (⟨#[115, 32, 85, 78, 83, 65, 84, 73, 83, 70, 73, 65, 66, 76, 69, 10]⟩ : ByteArray) = bz ([115, 32] ++ unsatB ++ [10]) := rfl
  have z4 : (⟨#[115, 32, 85, 78, 75, 78, 79, 87, 78, 10]⟩ : ByteArray) = bz ([115, 32] ++ unkB ++ [10]) := rfl
  by_cases hE : E = 1
  case neg =>
    have hE1 : (E == 1) = false := by rw [beq_eq_false_iff_ne]; exact hE
    by_cases hE2 : E = 2
    · have hE2' : (E == 2) = true := by rw [beq_iff_eq]; exact hE2
      have Hr := Lib.hid (show printA E T = [115, 32] ++ unsatB ++ [10] by unfold printA; rw [if_neg hE, if_pos hE2])
      clear hE hE2 hw1 hb1 hz1
      go_enter Tryd.func22, Tryd.ntmps22
      rw [z0, z1, z2, z3, z4]
      go_upto_region 1 with fail
      rw [← HW1.out]
      go_wp2
      go_ret
      exact ⟨by rw [Hr.out]; rfl, HB1.out⟩
    · have hE2' : (E == 2) = false := by rw [beq_eq_false_iff_ne]; exact hE2
      have Hr := Lib.hid (show printA E T = [115, 32] ++ unkB ++ [10] by unfold printA; rw [if_neg hE, if_neg hE2])
      clear hE hE2 hw1 hb1 hz1
      go_enter Tryd.func22, Tryd.ntmps22
      rw [z0, z1, z2, z3, z4]
      go_upto_region 1 with fail
      rw [← HW1.out]
      go_wp2
      go_ret
      exact ⟨by rw [Hr.out]; rfl, HB1.out⟩
  subst hE
  have Hr := Lib.hid (show printA 1 T = sSat ++ [118, 32] ++ lineL (tnums T) from rfl)
  obtain ⟨A, cv, rfl, hm, hat⟩ := RSl.open_ hT
  have Hat := Lib.hid hat
  obtain ⟨b, hb⟩ : ∃ b, b = w1.heap.size := ⟨_, rfl⟩
  obtain ⟨w2, hw2⟩ : ∃ w2, w2 = w1.alloc (.cells #[.pointer none, .slice none 0 0] 82) := ⟨_, rfl⟩
  have HBl := Lib.hid (show BldF b b (Lib.byteCells []) w2 by rw [hw2, hb]; exact bld_new w1)
  have hz2 : w2.heap.size = b + 1 := by rw [hw2, hb]; simp
  have hb2 : Below w1.heap.size w1 w2 := by rw [hw2]; exact below_alloc _ _
  obtain ⟨N, hN⟩ : ∃ N, N = T.length := ⟨_, rfl⟩
  rw [← hN] at hl
  have hmk := fun (W : World) => run_makeN (P := Tryd.prog) (bytes := 8) (z := .int .i64 0) Tryd.underlying56 (by kernel_rfl) (by omega) rfl N (by omega) W
  obtain ⟨D, hD⟩ : ∃ D, D = w2.heap.size := ⟨_, rfl⟩
  obtain ⟨w3, hw3⟩ : ∃ w3, w3 = w2.alloc (.cells (madeCells #[.int .i64 0] N) 3) := ⟨_, rfl⟩
  have hb3 : Below w2.heap.size w2 w3 := by rw [hw3]; exact below_alloc _ _
  have HO3 := Lib.hid (show w3.ownsRow D 3 1 (.slice (some ⟨D, 0, none⟩) N N) N (rowN [] N) by rw [hw3, hD]; simpa [rowN] using own_made w2 3 (.int .i64 0) N (by omega))
  have hsz : w.heap.size ≤ w1.heap.size := by omega
  have HB2 := Lib.hid (hb1.trans (hb2.mono hsz))
  have HB3 := Lib.hid hb3
  have Hzz := Lib.hid (show w.heap.size ≤ w2.heap.size ∧ b < D ∧ w.heap.size ≤ b from ⟨by omega, by omega, by omega⟩)
  have c0' : w2.cell? ⟨w.heap.size, 0, none⟩ = some (.int .i64 1) := (hb2.cell (p := ⟨_, _, _⟩) (by simp; omega)).trans c0
  have c1' : w2.cell? ⟨w.heap.size, 1, none⟩ = some (.slice A T.length cv) := (hb2.cell (p := ⟨_, _, _⟩) (by simp; omega)).trans c1
  have c1'' : w3.cell? ⟨w.heap.size, 1, none⟩ = some (.slice A T.length cv) := (hb3.cell (p := ⟨_, _, _⟩) (by simp; omega)).trans c1'
  have HN := Lib.hid hN
  rw [← hN] at c1 c1' c1'' hm
  have HD := Lib.hid hD
  have Hb := Lib.hid hb
  have HW2 := Lib.hid hw2
  have HW3 := Lib.hid hw3
  clear hN hD hb hw1 hw2 hw3 hz2 hb1 hb2 hb3 hz1 hT hat hsz
  go_enter Tryd.func22, Tryd.ntmps22
  rw [z0, z1, z2, z3, z4]
  go_upto_region 1 with fail
  rw [← HW1.out]
  go_upto_region 4 with fail
  rw [← Hb.out, ← HW2.out]
  go_upto_region 5 with fail
  rw [← HD.out, ← HW3.out]
  go_wp2
  have HX := Lib.hid (show ∀ wk, Below w2.heap.size w2 wk → wk.cell? ⟨D, 0, none⟩ = wk.cell? ⟨D, 0, none⟩ from fun _ _ => rfl)
  go_loopw [18] (fun iv wr => ∃ (k : Nat), k ≤ N ∧ iv = .int .i64 k ∧ Hid (wr.ownsRow D 3 1 (.slice (some ⟨D, 0, none⟩) N N) N (rowN ((tnums T).take k) N)) ∧ Hid (Below w2.heap.size w2 wr)) (fun iv _ => N - (intOf iv).toNat)
  case atStart => exact ⟨0, Nat.zero_le _, rfl, HO3, HB3⟩
  case round =>
    obtain ⟨wk, hwk⟩ : ∃ w0 : World, w0 = wr := ⟨_, rfl⟩
    rw [← hwk] at hrel ⊢
    clear hwk
    obtain ⟨k, hk, rfl, HO, HB⟩ := hrel
    rcases Nat.lt_or_ge k N with hlt | hge
    · have hltT : k < T.length := by rw [← HN.out]; exact hlt
      obtain ⟨g, off, u, rfl, hg, hcell, hu⟩ := Hat.out.at_ RBool.stable (ag_of_below (HB2.out.trans (HB.out.mono Hzz.out.1))) hltT
      obtain rfl := hu
      have Ht := Lib.hid (tnums_take hltT)
      obtain ⟨t, ht⟩ : ∃ t, t = T[k] := ⟨_, rfl⟩
      rw [← ht] at hcell Ht
      have hlen : ((tnums T).take k).length = k := by rw [List.length_take, tnums_len]; omega
      obtain ⟨l, hl'⟩ : ∃ l, l = (tnums T).take k := ⟨_, rfl⟩
      rw [← hl'] at HO Ht hlen
      have hc0 : wk.cell? ⟨D, k, none⟩ = some (.int .i64 0) := by
        rw [HO.out.cellAt k (by omega)]
        unfold rowN
        rw [List.getElem?_append_right (by simp [hlen]), List.getElem?_replicate, if_pos (by simp [hlen]; omega)]
      obtain ⟨q2, hq2⟩ := own_obj HO.out (g := D) rfl
      have hf0 := frozen_of_row _ _ k _ _ hq2
      have hw1 : IntKind.i64.wrap ((k : Int) + 1) = (k : Int) + 1 := by rw [IntKind.wrap_i64]; omega
      have hw2 : IntKind.i64.wrap (-((k : Int) + 1)) = -((k : Int) + 1) := by rw [IntKind.wrap_i64]; omega
      have HO4 := Lib.hid (own_set1 HO.out k (nV ((k : Int) + 1)))
      have hc4 : (wk.setCell ⟨D, k, none⟩ (nV ((k : Int) + 1))).cell? ⟨D, k, none⟩ = some (nV ((k : Int) + 1)) := by
        rw [HO4.out.cellAt k (by omega), List.getElem?_set_self (by unfold rowN; simp [hlen]; omega)]
      have HR := Lib.hid (show ∀ x, (rowN l N).set k (nV x) = rowN (l ++ [x]) N from fun x => by have := rowN_set (l := l) (N := N) (by rw [hlen]; exact hlt) x; rwa [hlen] at this)
      have HO5 := Lib.hid (own_set1 HO4.out k (nV (-((k : Int) + 1))))
      have hDl : w2.heap.size ≤ D := Nat.le_of_eq HD.out.symm
      have hlw := HO.out.lt D rfl
      clear hlen ht hl' hq2
      cases t with
      | true =>
        go_wp2
        go_roundw
        case rel => exact ⟨k + 1, hlt, by go_num, Lib.hid (by have := HO4.out; rw [HR.out] at this; rw [Ht.out]; exact this), Lib.hid (HB.out.setCell (p := ⟨D, k, none⟩) hDl _)⟩
        case measure => simp [intOf]; clear hw1 hw2; omega
      | false =>
        go_wp2
        go_roundw
        case rel => exact ⟨k + 1, hlt, by go_num, Lib.hid (by have := HO5.out; rw [set_set_row, HR.out] at this; rw [Ht.out]; exact this), Lib.hid ((HB.out.setCell (p := ⟨D, k, none⟩) hDl _).setCell (p := ⟨D, k, none⟩) hDl _)⟩
        case measure => simp [intOf]; clear hw1 hw2; omega
    · obtain rfl : k = N := by omega
      have HOe := Lib.hid (show wk.ownsRow D 3 1 (.slice (some ⟨D, 0, none⟩) k k) (tnums T).length ((tnums T).map nV) by
        have h1 := HO.out
        have h2 : (tnums T).length = k := by rw [tnums_len, ← HN.out]
        rw [List.take_of_length_le (by omega)] at h1
        unfold rowN at h1
        rw [h2, Nat.sub_self, List.replicate_zero, List.append_nil] at h1
        rw [h2]; exact h1)
      have HS := Lib.hid (show ∀ w', Below b wk w' → Others (some b) wk w' → Stays b b w' (.slice (some ⟨D, 0, none⟩) k k) (tnums T) from fun w' hb' ho' => by
        have hDb := Hzz.out.2.1
        obtain ⟨q2, hq2⟩ := own_obj HOe.out (g := D) rfl
        refine stays_row (g := D) (base := D) (own_ag HOe.out fun g hg => ?_) rfl (by omega)
        cases hg
        rw [ho' D _ hq2 (fun e => by have := Option.some.inj e; omega) (fun cs fr e => absurd (Obj.cells.inj e).2.1 (by decide)), hq2])
      have hbw : b ≤ wk.heap.size := by have := HB.out.size; have := Hzz.out; have := HD.out; omega
      have H0 := Lib.hid (⟨HBl.out.up HB.out, Below.refl _ _, Lib.OthersKept.refl _ _ _⟩ : Wr b b [] wk wk)
      have H1 := Lib.hid (H0.out.str (s := sSat) hbw (by decide))
      have HL := Lib.hid (fun (w' : World) (h : Wr b b ([] ++ sSat) wk w') => line_any b b ([] ++ sSat) [118, 32] (.slice (some ⟨D, 0, none⟩) k k) (tnums T) w' h.bld (Nat.le_trans hbw h.below.size) (HS.out w' h.below h.oth) (tnums_ok (by rw [← HN.out]; exact hl)) (by rw [tnums_len, ← HN.out]; omega) (by decide) (by decide))
      have HBw := Lib.hid (show Below w.heap.size w wk from HB2.out.trans (HB.out.mono Hzz.out.1))
      have hbz := Hzz.out.2.2
      clear hge hk
      go_wp2_with (first
        | (go_at_call 43; refine H1.out.mono ?_; rintro e w5 ⟨rfl, h5⟩; have H5 := Lib.hid h5; have HL5 := Lib.hid (HL.out _ h5); have hb5 := Nat.le_trans hbw h5.below.size; clear h5)
        | (go_at_call 37; refine HL5.out.mono ?_; rintro e w6 ⟨rfl, h6⟩; have HT6 := Lib.hid (h6.string hb5); clear h6)
        | (go_at_call 38; refine HT6.out.mono ?_; rintro e w7 ⟨rfl, h7⟩; have H7 := Lib.hid h7; clear h7))
      go_ret
      exact ⟨by rw [Hr.out]; rfl, HBw.out.trans ((H5.out.below.trans H7.out).mono hbz)⟩
end Go.Proofs.YtgfbmidpiamkhaaDoor
