/- DimacsBack: the law, walked. -/
import Derived.Test.YtgfbmidpiamkhaaDoorQAnK1
import Derived.Test.YtgfbmidpiamkhaaDoorQBkD3
import Derived.Test.YtgfbmidpiamkhaaDoorQFnRefSatMay
namespace Go.Proofs.YtgfbmidpiamkhaaDoor
open Go.RowKit
open C01 D28 Go.Sort

theorem printQ_len {vars : Int} {l : List (List Int)} (hl : LightL l) (hv : 0 ≤ vars ∧ vars ≤ 1024) : (printQ vars l).length ≤ 50000 := by
  have h1 := numL_len (x := vars) (by omega)
  have h2 := numL_len (x := (l.length : Int)) (by have := hl.1; omega)
  have h3 := hl.pre l.length
  rw [List.take_length] at h3
  unfold printQ
  simp only [List.length_append, List.length_cons, List.length_nil, show pcnf.length = 6 from rfl]
  omega
theorem parse_print {m vars : Int} {C : List (List Int)} (w : World) (hM : MaxAt m w) (hl : LightL C) (hm : satMayN vars C = 0) :
    Calls Tryd.prog 11 #[sv (printQ vars C)] w fun e w' => ∃ v, e = .returned (.tuple #[.agg #[.int .i64 vars, v], .int .i64 0, .int .i64 0]) ∧ RIntss w' (Lt w'.heap.size) v C ∧ Below w.heap.size w w' := by
  have h := parse_back hl hm (note := []) (by simp) 0 0 [] 1 rfl
  rw [transL_zero, List.nil_append, ← printQ_head] at h
  obtain ⟨h0, h1, _⟩ := may_lits hm
  exact Parse_ok _ m vars C.length _ C w hM (by have := printQ_len (vars := vars) hl ⟨h0, h1⟩; omega) h hm
theorem proof_print {m : Int} {l : List (List Int)} (w : World) (hM : MaxAt m w) (hl : LightL l) :
    Calls Tryd.prog 14 #[sv (printL l)] w fun e w' => ∃ v, e = .returned (.tuple #[v, .int .i64 0, .int .i64 0]) ∧ RIntss w' (Lt w'.heap.size) v l ∧ Below w.heap.size w w' := by
  have hlen := hl.pre l.length
  rw [List.take_length] at hlen
  refine (ParseProof_any (printL l) m w hM (by omega)).mono fun e w' h => ?_
  have hr : gR 16384 2 (-1) (printL l) = (0, 0, some l) := by unfold gR; rw [proof_back hl]; exact if_neg (by simp)
  obtain ⟨h1, h2⟩ := h
  rw [hr] at h2
  obtain ⟨v, e, h3⟩ := h2
  exact ⟨v, e, h3, h1⟩
theorem answer_print {m E : Int} {T : List Bool} (w : World) (hM : MaxAt m w) (hE : 1 ≤ E ∧ E ≤ 3) (hT : T.length ≤ 300) :
    Calls Tryd.prog 19 #[sv (printA E T)] w fun e w' => ∃ v, e = .returned (.tuple #[.agg #[.int .i64 E, v, .slice none 0 0, .int .i64 0], .int .i64 0, .int .i64 0]) ∧ RBools w' (Lt w'.heap.size) v (if E = 1 then T else []) ∧ Below w.heap.size w w' := by
  refine (ParseAnswer_any (printA E T) m w hM (by have := printA_len (E := E) hT; omega)).mono fun e w' h => ?_
  unfold AnsPost at h
  rw [answer_back hE hT] at h
  obtain ⟨h1, v, e, h3⟩ := h
  refine ⟨v, ?_, h3, h1⟩
  rw [e, show ((E.toNat : Nat) : Int) = E by omega]
theorem same_yes {s1 s2 : Value} {A : List (List Int)} {w : World} (h : Calls Tryd.prog 12 #[s1, s2] w (SamePost A A w)) : Calls Tryd.prog 12 #[s1, s2] w fun e w' => e = .returned (.bool true) ∧ ∃ n, w' = w.drewN n :=
  h.mono fun e w' h => ⟨h.1.trans (by simp), h.2⟩
set_option maxRecDepth 100000 in
set_option maxHeartbeats 8000000 in
theorem walk_DimacsBack (m : Int) (W : World) (hm : MaxAt m W) (v0 v1 v2 : Value) (a0 : Arg Tryd.prog W 24 v0) (a1 : Arg Tryd.prog W 22 v1) (a2 : Arg Tryd.prog W 47 v2) : Calls Tryd.prog 6 #[v0, v1, v2] W fun e W' => e = .returned (.bool true) ∧ Below W.heap.size W W' := by
  obtain ⟨vars, vC, C, rfl, hC, hv1, hv2⟩ := arg_question a0
  obtain ⟨l, hl⟩ := arg_rows a1
  obtain ⟨AE, vT, vP, AC, T, L, rfl, hT, hL, hE1, hE2⟩ := arg_answer a2
  clear a0 a1 a2
  obtain ⟨Ac, cc, rfl, hmC, -⟩ := RSl.open_ hC
  obtain ⟨Al, cl, rfl, hml, -⟩ := RSl.open_ hl
  obtain ⟨AT, cT, rfl, hmT, -⟩ := RSl.open_ hT
  obtain ⟨AL, cL, rfl, hmL, -⟩ := RSl.open_ hL
  obtain ⟨w1, hw1⟩ : ∃ w1, w1 = (W.alloc (.cells #[.int .i64 vars, .slice Ac C.length cc] 24)).alloc (.cells #[.int .i64 AE, .slice AT T.length cT, .slice AL L.length cL, .int .i64 AC] 47) := ⟨_, rfl⟩
  have HB1 := Lib.hid (show Below W.heap.size W w1 by rw [hw1]; exact (below_alloc _ _).alloc (by simp) _)
  have r3 : w1.heap[W.heap.size]? = some (.cells #[.int .i64 vars, .slice Ac C.length cc] 24 (0, 0)) := by rw [hw1]; exact heap_at_alloc (heap_alloc_new W _)
  have r5 : w1.heap[W.heap.size + 1]? = some (.cells #[.int .i64 AE, .slice AT T.length cT, .slice AL L.length cL, .int .i64 AC] 47 (0, 0)) := by rw [hw1]; exact heap_new (by simp)
  have HW1 := Lib.hid hw1
  have HM1 := Lib.hid (hm.up HB1.out)
  have HC1 := Lib.hid (RIntss.stable.up hC HB1.out)
  have Hl1 := Lib.hid (RIntss.stable.up hl HB1.out)
  have HT1 := Lib.hid (RBools.stable.up hT HB1.out)
  have HR3 := Lib.hid r3
  have HR5 := Lib.hid r5
  have q0 := cell_of_row _ _ 0 _ _ _ r3
  have q1 := cell_of_row _ _ 1 _ _ _ r3
  have b0 := cell_of_row _ _ 0 _ _ _ r5
  have b1 := cell_of_row _ _ 1 _ _ _ r5
  have b2 := cell_of_row _ _ 2 _ _ _ r5
  have b3 := cell_of_row _ _ 3 _ _ _ r5
  have HLi := Lib.hid (fun w (h : MaxAt m w) => lives_any m w h)
  have HY := Lib.hid (light_any _ C w1 HC1.out)
  have HYl := Lib.hid (light_any _ l w1 Hl1.out)
  have HMay := Lib.hid (refSatMay_any vars _ C w1 HC1.out)
  clear hw1 r3 r5 hC hl hT hL hm
  cases hlc : lightB28 C with
  | false =>
    rw [hlc] at HY
    clear hlc
    go_enter Tryd.func6, Tryd.ntmps6
    go_upto_region 1 with fail
    rw [← HW1.out]
    go_wp2_with (first
      | (go_at_call 7; refine HY.out.mono ?_; rintro e w1 ⟨rfl, rfl⟩)
      | (go_at_call 9; refine (HLi.out _ HM1.out).mono ?_; rintro e w9 ⟨rfl, hb9⟩; have HB9 := Lib.hid (HB1.out.trans (hb9.mono HB1.out.size)); clear hb9))
    go_ret
    exact ⟨rfl, HB9.out⟩
  | true =>
  have HLc := Lib.hid (light_yes hlc)
  rw [hlc] at HY
  clear hlc
  cases hll : lightB28 l with
  | false =>
    rw [hll] at HYl
    clear hll
    go_enter Tryd.func6, Tryd.ntmps6
    go_upto_region 1 with fail
    rw [← HW1.out]
    go_wp2_with (first
      | (go_at_call 7; (first | with_reducible refine HY.out.mono ?_ | with_reducible refine HYl.out.mono ?_); rintro e w1 ⟨rfl, rfl⟩)
      | (go_at_call 9; refine (HLi.out _ HM1.out).mono ?_; rintro e w9 ⟨rfl, hb9⟩; have HB9 := Lib.hid (HB1.out.trans (hb9.mono HB1.out.size)); clear hb9))
    go_ret
    exact ⟨rfl, HB9.out⟩
  | true =>
  have HLl := Lib.hid (light_yes hll)
  rw [hll] at HYl
  clear hll
  rcases Nat.lt_or_ge 300 T.length with h300 | h300
  · have hlen : (300 : Int) < (T.length : Int) := by omega
    clear h300
    go_enter Tryd.func6, Tryd.ntmps6
    go_upto_region 1 with fail
    rw [← HW1.out]
    go_wp2_with (first
      | (go_at_call 7; (first | with_reducible refine HY.out.mono ?_ | with_reducible refine HYl.out.mono ?_); rintro e w1 ⟨rfl, rfl⟩)
      | (go_at_call 9; refine (HLi.out _ HM1.out).mono ?_; rintro e w9 ⟨rfl, hb9⟩; have HB9 := Lib.hid (HB1.out.trans (hb9.mono HB1.out.size)); clear hb9))
    go_ret
    exact ⟨rfl, HB9.out⟩
  have hlen : decide ((300 : Int) < (T.length : Int)) = false := decide_eq_false (by omega)
  have H300 := Lib.hid h300
  clear h300
  by_cases hmay : satMayN vars C = 0
  case neg =>
    have hm0 : ((satMayN vars C : Int) != 0) = true := bne_iff_ne.2 (by omega)
    obtain ⟨mc, hmc⟩ : ∃ mc, mc = satMayN vars C := ⟨_, rfl⟩
    rw [← hmc] at HMay hm0
    clear hmc hmay
    go_enter Tryd.func6, Tryd.ntmps6
    go_upto_region 1 with fail
    rw [← HW1.out]
    go_wp2_with (first
      | (go_at_call 7; (first | with_reducible refine HY.out.mono ?_ | with_reducible refine HYl.out.mono ?_); rintro e w1 ⟨rfl, rfl⟩)
      | (go_at_call 8; refine HMay.out.mono ?_; rintro e w2 ⟨rfl, hb2⟩; have HB2 := Lib.hid (HB1.out.trans (hb2.mono HB1.out.size)); have HM2 := Lib.hid (HM1.out.up hb2); clear hb2)
      | (go_at_call 9; refine (HLi.out _ HM2.out).mono ?_; rintro e w9 ⟨rfl, hb9⟩; have HB9 := Lib.hid (HB2.out.trans (hb9.mono HB2.out.size)); clear hb9))
    go_ret
    exact ⟨rfl, HB9.out⟩
  have Hmay := Lib.hid hmay
  rw [hmay] at HMay
  clear hmay
  obtain ⟨hv0, hv1024, -⟩ := may_lits Hmay.out
  go_enter Tryd.func6, Tryd.ntmps6
  go_upto_region 1 with fail
  rw [← HW1.out]
  go_upto_region 3 with (first
      | (go_at_call 7; (first | with_reducible refine HY.out.mono ?_ | with_reducible refine HYl.out.mono ?_); rintro e w1 ⟨rfl, rfl⟩)
      | (go_at_call 8; refine HMay.out.mono ?_; rintro e w2 ⟨rfl, hb2⟩; have HB2 := Lib.hid hb2; clear hb2))
  have p0 := (HB2.out.cell (p := ⟨_, _, _⟩) (World.block_lt_of_cell? w1 _ q0)).trans q0
  have p1 := (HB2.out.cell (p := ⟨_, _, _⟩) (World.block_lt_of_cell? w1 _ q1)).trans q1
  have HPr := Lib.hid (fun w (h : Below w1.heap.size w1 w) => Print_any vars _ C w (RIntss.stable.up HC1.out h) HLc.out ⟨by omega, by omega⟩)
  have HPa := Lib.hid (fun w (h : Below w1.heap.size w1 w) => parse_print w (HM1.out.up h) HLc.out Hmay.out)
  have HPp := Lib.hid (fun w (h : Below w1.heap.size w1 w) => PrintProof_any _ l w (RIntss.stable.up Hl1.out h) HLl.out)
  have HPq := Lib.hid (fun w (h : Below w1.heap.size w1 w) => proof_print w (HM1.out.up h) HLl.out)
  go_upto_region 4 with (first
    | (go_at_call 10; with_reducible refine (HPr.out _ HB2.out).mono ?_; rintro e w3 ⟨rfl, hb3⟩; have HB3 := Lib.hid (HB2.out.trans (hb3.mono HB2.out.size)); clear hb3)
    | (go_at_call 11; with_reducible refine (HPa.out _ HB3.out).mono ?_; rintro e w4 ⟨vx, rfl, hvx, hb4⟩; obtain ⟨Ax, cx, rfl, hmx, -⟩ := RSl.open_ hvx; have HVx := Lib.hid hvx; have HB4 := Lib.hid (HB3.out.trans (hb4.mono HB3.out.size)); clear hb4 hvx))
  obtain ⟨w5, hw5⟩ : ∃ w5, w5 = w4.alloc (.cells #[.int .i64 vars, .slice Ax C.length cx] 24) := ⟨_, rfl⟩
  have hb5 : Below w4.heap.size w4 w5 := by rw [hw5]; exact below_alloc _ _
  have HB5 := Lib.hid (HB4.out.trans (hb5.mono HB4.out.size))
  have HX5 := Lib.hid (show w5.heap[w4.heap.size]? = some (.cells #[.int .i64 vars, .slice Ax C.length cx] 24 (0, 0)) by rw [hw5]; exact heap_alloc_new _ _)
  have HVx5 := Lib.hid (RIntss.stable.up HVx.out hb5)
  rw [← hw5]
  clear hw5 hb5
  go_upto_region 5 with (first
    | (go_at_call 17; with_reducible refine (HPp.out _ HB5.out).mono ?_; rintro e w6 ⟨rfl, hb6⟩; have HB6 := Lib.hid (HB5.out.trans (hb6.mono HB5.out.size)); have HX6 := Lib.hid (show Below w5.heap.size w5 w6 from hb6); clear hb6)
    | (go_at_call 14; with_reducible refine (HPq.out _ HB6.out).mono ?_; rintro e w7 ⟨vy, rfl, hvy, hb7⟩; obtain ⟨Ay, cy, rfl, hmy, -⟩ := RSl.open_ hvy; have HVy := Lib.hid hvy; have HB7 := Lib.hid (HB6.out.trans (hb7.mono HB6.out.size)); have HX7 := Lib.hid (HX6.out.trans (hb7.mono HX6.out.size)); clear hb7 hvy))
  have r7 := (HX7.out.block w4.heap.size (Array.getElem?_eq_some_iff.1 HX5.out).1).trans HX5.out
  have x0 := cell_of_row _ _ 0 _ _ _ r7
  have x1 := cell_of_row _ _ 1 _ _ _ r7
  clear r7 p0 p1
  have p0 := (HB7.out.cell (p := ⟨_, _, _⟩) (World.block_lt_of_cell? w1 _ q0)).trans q0
  have p1 := (HB7.out.cell (p := ⟨_, _, _⟩) (World.block_lt_of_cell? w1 _ q1)).trans q1
  have s0 := (HB7.out.cell (p := ⟨_, _, _⟩) (World.block_lt_of_cell? w1 _ b0)).trans b0
  have s1 := (HB7.out.cell (p := ⟨_, _, _⟩) (World.block_lt_of_cell? w1 _ b1)).trans b1
  have s2 := (HB7.out.cell (p := ⟨_, _, _⟩) (World.block_lt_of_cell? w1 _ b2)).trans b2
  have s3 := (HB7.out.cell (p := ⟨_, _, _⟩) (World.block_lt_of_cell? w1 _ b3)).trans b3
  have HSa := Lib.hid (same_yes (Same_any _ _ C C w7 (RIntss.stable.up HVx5.out HX7.out) (RIntss.stable.up HC1.out HB7.out)))
  have HSb := Lib.hid (fun q => same_yes (Same_any _ _ l l (w7.drewN q) (RIntss.stable.up (RIntss.stable.up Hl1.out HB7.out) (below_drewN (Below.refl _ w7) q)) (RIntss.stable.up HVy.out (below_drewN (Below.refl _ w7) q))))
  have hvv : (vars != vars) = false := by simp
  clear q0 q1 b0 b1 b2 b3 HPr HPa HPp HPq HVx HVx5 HX5 HX6 HX7 HB6 HB5 HB4 HB3 HB2 HY HYl HMay HC1 Hl1 HVy
  have HB7W := Lib.hid (HB1.out.trans (HB7.out.mono HB1.out.size))
  have HM7 := Lib.hid (HM1.out.up HB7.out)
  have HT7 := Lib.hid (RBools.stable.up HT1.out HB7.out)
  have Hd8 := Lib.hid (fun a => below_drewN (Below.refl w7.heap.size w7) a)
  go_upto_region 7 with (first
    | (go_at_call 12; with_reducible refine HSa.out.mono ?_; rintro e w8 ⟨rfl, q, rfl⟩)
    | (go_at_call 12; with_reducible refine (HSb.out _).mono ?_; rintro e w9 ⟨rfl, q9, rfl⟩))
  obtain ⟨w8, hw8⟩ : ∃ w8, w8 = w7.drewN (q + q9) := ⟨_, rfl⟩
  have HB8 := Lib.hid (show Below w7.heap.size w7 w8 by rw [hw8]; exact Hd8.out _)
  rw [← hw8]
  clear hw8 HSa HSb Hd8
  have e0 := (HB8.out.cell (p := ⟨_, _, _⟩) (World.block_lt_of_cell? w7 _ s0)).trans s0
  have e1 := (HB8.out.cell (p := ⟨_, _, _⟩) (World.block_lt_of_cell? w7 _ s1)).trans s1
  have e2 := (HB8.out.cell (p := ⟨_, _, _⟩) (World.block_lt_of_cell? w7 _ s2)).trans s2
  have e3 := (HB8.out.cell (p := ⟨_, _, _⟩) (World.block_lt_of_cell? w7 _ s3)).trans s3
  clear s0 s1 s2 s3 x0 x1 p0 p1
  have HB8W := Lib.hid (HB7W.out.trans (HB8.out.mono HB7W.out.size))
  have HM8 := Lib.hid (HM7.out.up HB8.out)
  have HT8 := Lib.hid (RBools.stable.up HT7.out HB8.out)
  clear HB7W HM7 HT7 HB8 HB7 HM1 HT1 HB1 HW1 HR3 HR5
  rcases Int.lt_or_le AE 1 with hlo | hlo
  · go_wp2_with (go_at_call 9; refine (HLi.out _ HM8.out).mono ?_; rintro e w9 ⟨rfl, hb9⟩; have HB9 := Lib.hid (HB8W.out.trans (hb9.mono HB8W.out.size)); clear hb9)
    go_ret
    exact ⟨rfl, HB9.out⟩
  have hlo' : decide (AE < 1) = false := decide_eq_false (by omega)
  rcases Int.lt_or_le 3 AE with hhi | hhi
  · go_wp2_with (go_at_call 9; refine (HLi.out _ HM8.out).mono ?_; rintro e w9 ⟨rfl, hb9⟩; have HB9 := Lib.hid (HB8W.out.trans (hb9.mono HB8W.out.size)); clear hb9)
    go_ret
    exact ⟨rfl, HB9.out⟩
  have hhi' : decide (3 < AE) = false := decide_eq_false (by omega)
  have HPa := Lib.hid (fun w (h : Below w8.heap.size w8 w) => PrintAnswer_any AE AC _ (.slice AL L.length cL) T w (RBools.stable.up HT8.out h) H300.out)
  have HPq := Lib.hid (fun w (h : Below w8.heap.size w8 w) => answer_print (E := AE) (T := T) w (HM8.out.up h) ⟨hlo, hhi⟩ H300.out)
  have hWz : W.heap.size + 1 < w8.heap.size := World.block_lt_of_cell? w8 _ e0
  obtain ⟨w9, hw9⟩ : ∃ w9, w9 = w8.alloc (.cells #[.int .i64 AE, .slice none 0 0, .slice none 0 0, .int .i64 0] 47) := ⟨_, rfl⟩
  have hb9 : Below w8.heap.size w8 w9 := by rw [hw9]; exact below_alloc _ _
  have r9 : w9.heap[w8.heap.size]? = some (.cells #[.int .i64 AE, .slice none 0 0, .slice none 0 0, .int .i64 0] 47 (0, 0)) := by rw [hw9]; exact heap_alloc_new _ _
  go_upto_region 10 with fail
  rw [← hw9]
  clear hw9
  have hW9 : W.heap.size + 1 < w9.heap.size := Nat.lt_of_lt_of_le hWz hb9.size
  have f0 := (hb9.cell (p := ⟨_, _, _⟩) (World.block_lt_of_cell? w8 _ e0)).trans e0
  have f1 := (hb9.cell (p := ⟨_, _, _⟩) (World.block_lt_of_cell? w8 _ e1)).trans e1
  have f2 := (hb9.cell (p := ⟨_, _, _⟩) (World.block_lt_of_cell? w8 _ e2)).trans e2
  have f3 := (hb9.cell (p := ⟨_, _, _⟩) (World.block_lt_of_cell? w8 _ e3)).trans e3
  have HB9 := Lib.hid hb9
  clear hb9 e0 e1 e2 e3
  by_cases hE : AE = 1
  · subst hE
    simp only [if_true] at HPq
    have c1 := cell_of_row _ _ 1 _ _ _ r9
    have cf := frozen_of_row _ _ 1 _ _ r9
    obtain ⟨wa, hwa⟩ : ∃ wa, wa = w9.setCell ⟨w8.heap.size, 1, none⟩ (.slice AT T.length cT) := ⟨_, rfl⟩
    have ra : wa.heap[w8.heap.size]? = some (.cells #[.int .i64 1, .slice AT T.length cT, .slice none 0 0, .int .i64 0] 47 (0, 0)) := by rw [hwa]; exact heap_setCell_same _ _ 1 _ _ _ r9
    have hba : Below w8.heap.size w8 wa := by rw [hwa]; exact HB9.out.setCell (p := ⟨w8.heap.size, 1, none⟩) (Nat.le_refl _) _
    have key : ∀ j u, w9.cell? ⟨W.heap.size + 1, j, none⟩ = some u → wa.cell? ⟨W.heap.size + 1, j, none⟩ = some u := fun j u h => by rw [hwa]; exact (World.cell?_of_block (w := w9) (Below.heap_setCell w9 _ _ (W.heap.size + 1) (by show _ ≠ w8.heap.size; omega))).trans h
    have k0 := key _ _ f0
    have k1 := key _ _ f1
    have k2 := key _ _ f2
    have k3 := key _ _ f3
    have HBa := Lib.hid hba
    have HRa := Lib.hid ra
    clear hlo hhi hlo' hhi' hE1 hE2 key
    go_upto_region 12 with fail
    rw [← hwa]
    clear hwa f0 f1 f2 f3 r9 c1 cf ra hba
    go_upto_region 13 with (first
      | (go_at_call 22; with_reducible refine (HPa.out _ HBa.out).mono ?_; rintro e wb ⟨rfl, hbb⟩; have HBb := Lib.hid (HBa.out.trans (hbb.mono HBa.out.size)); have HXb := Lib.hid (show Below wa.heap.size wa wb from hbb); clear hbb)
      | (go_at_call 19; with_reducible refine (HPq.out _ HBb.out).mono ?_; rintro e wc ⟨vz, rfl, hvz, hbc⟩; obtain ⟨Az, cz, rfl, hmz, -⟩ := RSl.open_ hvz; have HVz := Lib.hid hvz; have HBc := Lib.hid (HBb.out.trans (hbc.mono HBb.out.size)); have HXc := Lib.hid (HXb.out.trans (hbc.mono HXb.out.size)); clear hbc hvz))
    obtain ⟨wd, hwd⟩ : ∃ wd, wd = wc.alloc (.cells #[.int .i64 1, .slice Az T.length cz, .slice none 0 0, .int .i64 0] 47) := ⟨_, rfl⟩
    have hbd : Below wc.heap.size wc wd := by rw [hwd]; exact below_alloc _ _
    have rd : wd.heap[wc.heap.size]? = some (.cells #[.int .i64 1, .slice Az T.length cz, .slice none 0 0, .int .i64 0] 47 (0, 0)) := by rw [hwd]; exact heap_alloc_new _ _
    rw [← hwd]
    clear hwd
    have ha8 := (Array.getElem?_eq_some_iff.1 HRa.out).1
    have rw8 := (hbd.block w8.heap.size (Nat.lt_of_lt_of_le ha8 HXc.out.size)).trans ((HXc.out.block w8.heap.size ha8).trans HRa.out)
    have y0 := cell_of_row _ _ 0 _ _ _ rd
    have y1 := cell_of_row _ _ 1 _ _ _ rd
    have y2 := cell_of_row _ _ 2 _ _ _ rd
    have y3 := cell_of_row _ _ 3 _ _ _ rd
    have z0 := cell_of_row _ _ 0 _ _ _ rw8
    have z1 := cell_of_row _ _ 1 _ _ _ rw8
    have z2 := cell_of_row _ _ 2 _ _ _ rw8
    have z3 := cell_of_row _ _ 3 _ _ _ rw8
    have HBd := Lib.hid (HBc.out.trans (hbd.mono HBc.out.size))
    have HS := Lib.hid (sameA_any 1 _ _ T wd (RBools.stable.up HVz.out hbd) (RBools.stable.up HT8.out HBd.out) (fun b h => h) (fun b h => h))
    have HBW := Lib.hid (HB8W.out.trans (HBd.out.mono HB8W.out.size))
    have HMd := Lib.hid (HM8.out.up HBd.out)
    clear k0 k1 k2 k3 rd rw8 hbd ha8
    go_wp2_with (first
      | (go_at_call 21; with_reducible refine HS.out.mono ?_; rintro e we ⟨rfl, hbe⟩; have HBe := Lib.hid (HBW.out.trans (hbe.mono HBW.out.size)); have HMe := Lib.hid (HMd.out.up hbe); clear hbe)
      | (go_at_call 9; refine (HLi.out _ HMe.out).mono ?_; rintro e wf ⟨rfl, hbf⟩; have HBf := Lib.hid (HBe.out.trans (hbf.mono HBe.out.size)); clear hbf))
    go_ret
    exact ⟨rfl, HBf.out⟩
  · simp only [if_neg hE] at HPq
    have hE1' : (AE == 1) = false := by rw [beq_eq_false_iff_ne]; exact hE
    obtain ⟨wa, hwa⟩ : ∃ wa, wa = w9 := ⟨_, rfl⟩
    rw [← hwa] at r9 f0 f1 f2 f3 HB9 hW9 ⊢
    have k0 := f0
    have k1 := f1
    have k2 := f2
    have k3 := f3
    have HBa := HB9
    have HRa := Lib.hid r9
    clear hlo hhi hlo' hhi' hE1 hE2 f0 f1 f2 f3 r9 hE hwa
    go_upto_region 13 with (first
      | (go_at_call 22; with_reducible refine (HPa.out _ HBa.out).mono ?_; rintro e wb ⟨rfl, hbb⟩; have HBb := Lib.hid (HBa.out.trans (hbb.mono HBa.out.size)); have HXb := Lib.hid (show Below wa.heap.size wa wb from hbb); clear hbb)
      | (go_at_call 19; with_reducible refine (HPq.out _ HBb.out).mono ?_; rintro e wc ⟨vz, rfl, hvz, hbc⟩; obtain ⟨Az, cz, rfl, hmz, -⟩ := RSl.open_ hvz; have HVz := Lib.hid hvz; have HBc := Lib.hid (HBb.out.trans (hbc.mono HBb.out.size)); have HXc := Lib.hid (HXb.out.trans (hbc.mono HXb.out.size)); clear hbc hvz))
    have HVz : Hid (RBools wc (Lt wc.heap.size) (.slice Az 0 cz) []) := HVz
    obtain ⟨wd, hwd⟩ : ∃ wd, wd = wc.alloc (.cells #[.int .i64 AE, .slice Az 0 cz, .slice none 0 0, .int .i64 0] 47) := ⟨_, rfl⟩
    have hbd : Below wc.heap.size wc wd := by rw [hwd]; exact below_alloc _ _
    have rd : wd.heap[wc.heap.size]? = some (.cells #[.int .i64 AE, .slice Az 0 cz, .slice none 0 0, .int .i64 0] 47 (0, 0)) := by rw [hwd]; exact heap_alloc_new _ _
    rw [← hwd]
    clear hwd
    have ha8 := (Array.getElem?_eq_some_iff.1 HRa.out).1
    have rw8 := (hbd.block w8.heap.size (Nat.lt_of_lt_of_le ha8 HXc.out.size)).trans ((HXc.out.block w8.heap.size ha8).trans HRa.out)
    have y0 := cell_of_row _ _ 0 _ _ _ rd
    have y1 := cell_of_row _ _ 1 _ _ _ rd
    have y2 := cell_of_row _ _ 2 _ _ _ rd
    have y3 := cell_of_row _ _ 3 _ _ _ rd
    have z0 := cell_of_row _ _ 0 _ _ _ rw8
    have z1 := cell_of_row _ _ 1 _ _ _ rw8
    have z2 := cell_of_row _ _ 2 _ _ _ rw8
    have z3 := cell_of_row _ _ 3 _ _ _ rw8
    have HBd := Lib.hid (HBc.out.trans (hbd.mono HBc.out.size))
    have HS := Lib.hid (sameA_any AE _ _ [] wd (RBools.stable.up HVz.out hbd) (RSl.nil_ _ _ _) (fun b h => h) (fun b h => h))
    have HBW := Lib.hid (HB8W.out.trans (HBd.out.mono HB8W.out.size))
    have HMd := Lib.hid (HM8.out.up HBd.out)
    clear k0 k1 k2 k3 rd rw8 hbd ha8
    go_wp2_with (first
      | (go_at_call 21; with_reducible refine HS.out.mono ?_; rintro e we ⟨rfl, hbe⟩; have HBe := Lib.hid (HBW.out.trans (hbe.mono HBW.out.size)); have HMe := Lib.hid (HMd.out.up hbe); clear hbe)
      | (go_at_call 9; refine (HLi.out _ HMe.out).mono ?_; rintro e wf ⟨rfl, hbf⟩; have HBf := Lib.hid (HBe.out.trans (hbf.mono HBe.out.size)); clear hbf))
    go_ret
    exact ⟨rfl, HBf.out⟩
end Go.Proofs.YtgfbmidpiamkhaaDoor
