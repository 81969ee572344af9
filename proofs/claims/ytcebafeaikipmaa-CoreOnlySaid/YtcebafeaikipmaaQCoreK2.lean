/- The law CoreOf, walked. -/
import Derived.Deep.RegionHeld3
import Derived.Deep.DeepCutAuto
import Derived.Test.YtcebafeaikipmaaCb7
namespace Go.Proofs.Ytcebafeaikipmaa
open Go.RowKit

theorem light_may27 {n0 : Nat} {r : Int} {wss : List (List (List Int))} (h : lightC n0 wss = true) (hm : mayN n0 r wss ≠ 0) : mayN n0 r wss = 1 := by
  have h3 := (lightC_W h).1
  unfold mayN at *
  rw [if_neg (by omega)] at *
  split
  · rfl
  · rename_i h1
    rw [if_neg h1] at hm
    split
    · rfl
    · rename_i h2; simp [h2] at hm
/-- the law's deal in its box -/
structure DB (W w : World) (s0 s1 : Value) (r : Int) (items : List ItemD) (wss : List (List (List Int))) : Prop where
  bel : Below W.heap.size W w
  row : w.heap[W.heap.size]? = some (.cells #[s0, s1, .int .i64 r] 25 (0, 0))
  rI : RItems w (Lt w.heap.size) s0 items
  rW : RIntsss w (Lt w.heap.size) s1 wss
theorem DB.start {W : World} {s0 s1 : Value} {r : Int} {items : List ItemD} {wss : List (List (List Int))} (h0 : RItems W (Lt W.heap.size) s0 items) (h1 : RIntsss W (Lt W.heap.size) s1 wss) : DB W (W.alloc (.cells #[s0, s1, .int .i64 r] 25)) s0 s1 r items wss :=
  ⟨below_alloc _ _, heap_alloc_new _ _, RItems.stable.up h0 (below_alloc _ _), RIntsss.stable.up h1 (below_alloc _ _)⟩
theorem DB.up {W w w' : World} {s0 s1 : Value} {r : Int} {items : List ItemD} {wss : List (List (List Int))} (h : DB W w s0 s1 r items wss) (hb : Below w.heap.size w w') : DB W w' s0 s1 r items wss :=
  ⟨h.bel.trans (hb.mono h.bel.size), (hb.block _ (Array.getElem?_eq_some_iff.1 h.row).1).trans h.row, RItems.stable.up h.rI hb, RIntsss.stable.up h.rW hb⟩
theorem DB.cells {W w : World} {s0 s1 : Value} {r : Int} {items : List ItemD} {wss : List (List (List Int))} (h : DB W w s0 s1 r items wss) : w.cell? ⟨W.heap.size, 0, none⟩ = some s0 ∧ w.cell? ⟨W.heap.size, 1, none⟩ = some s1 ∧ w.cell? ⟨W.heap.size, 2, none⟩ = some (.int .i64 r) :=
  ⟨cell_of_row _ _ _ _ _ (0, 0) h.row, cell_of_row _ _ _ _ _ (0, 0) h.row, cell_of_row _ _ _ _ _ (0, 0) h.row⟩
theorem DB.lt {W w : World} {s0 s1 : Value} {r : Int} {items : List ItemD} {wss : List (List (List Int))} (h : DB W w s0 s1 r items wss) : W.heap.size < w.heap.size := (Array.getElem?_eq_some_iff.1 h.row).1
theorem DB.drew {W w : World} {s0 s1 : Value} {r : Int} {items : List ItemD} {wss : List (List (List Int))} (h : DB W w s0 s1 r items wss) : DB W w.drew s0 s1 r items wss := h.up (Below.refl _ _).drew
theorem rows_of_light {n0 : Nat} {wss : List (List (List Int))} (h : lightC n0 wss = true) : (∀ ws ∈ wss, ws.length ≤ 1000) ∧ wss.length ≤ 1000 ∧ n0 ≤ 7 ∧ (∀ ws ∈ wss, ∀ x ∈ ws, x.length ≤ 1000) := by
  obtain ⟨h1, h2, h3⟩ := lightC_W h
  refine ⟨fun ws hw => ?_, by omega, h1, fun ws hw x hx => ?_⟩
  · obtain ⟨i, hi, rfl⟩ := List.getElem_of_mem hw
    have := (h3 i hi).1; omega
  · obtain ⟨i, hi, rfl⟩ := List.getElem_of_mem hw
    have := (h3 i hi).2 x hx; omega
theorem all_le {n0 : Nat} {wss : List (List (List Int))} (h : lightC n0 wss = true) : (allW wss).length ≤ 7000 := by
  have := allTo_len (rows_of_light h).1 wss.length (Nat.le_refl _)
  have h2 := (lightC_W h).2.1
  unfold allW; omega
/-- core.Of with many conflicts -/
theorem of_many {items : List ItemD} {wss : List (List (List Int))} {r : Int} {most : Int} (hl : lightC items.length wss = true) (hm : mayN items.length r wss = 0) (h5 : 512 ≤ most) (h2 : most ≤ 2000000) (s0 s1 : Value) (w : World) (h0 : RItems w (Lt w.heap.size) s0 items) (hw : RIntsss w (Lt w.heap.size) s1 wss) :
    Calls Try.prog 15 #[.agg #[s0, s1, .int .i64 r], .int .i64 most] w fun e w' => (blamedB items wss r = false ∧ (∃ A c, e = .returned (.tuple #[.slice A 0 c, .int .i64 1, .int .i64 0])) ∨
      blamedB items wss r = true ∧ ∃ A n c, n = (leastL (fun m => blamedB items (onlyW m wss) r) (allW wss) (allW wss)).length ∧ e = .returned (.tuple #[.slice A n c, .int .i64 2, .int .i64 0]) ∧ RWants w' (Lt w'.heap.size) (.slice A n c) (leastL (fun m => blamedB items (onlyW m wss) r) (allW wss) (allW wss))) ∧ Below w.heap.size w w' := by
  obtain ⟨mst, rfl⟩ := Int.eq_ofNat_of_zero_le (show 0 ≤ most by omega)
  have hB : ∀ m, IbR items (onlyW m wss) r (mst : Int) (.ok (blamedB items (onlyW m wss) r)) := fun m => ⟨only_may m hm, by omega, by rw [Int.toNat_natCast]; exact never_open (only_may m hm) (only_light m hl) (by omega), rfl⟩
  have hO : IbR items wss r (mst : Int) (.ok (blamedB items wss r)) := ⟨hm, by omega, by rw [Int.toNat_natCast]; exact never_open hm hl (by omega), rfl⟩
  refine (of_any s0 s1 r mst items wss w _ (fun m => .ok (blamedB items (onlyW m wss) r)) h0 hw hl (.inr h5) h2 hO hB).mono ?_
  rintro e w' ⟨v, rfl, hr, hb⟩
  rw [leastO_ok (fun _ => rfl)] at hr ⊢
  refine ⟨?_, hb⟩
  cases hbl : blamedB items wss r with
  | false =>
    rw [hbl] at hr
    obtain ⟨A, c, rfl⟩ := hr.shape
    exact .inl ⟨rfl, A, c, rfl⟩
  | true =>
    rw [hbl] at hr
    obtain ⟨A, c, rfl⟩ := hr.shape
    exact .inr ⟨rfl, A, _, c, rfl, rfl, hr⟩
/-- core.Of of a deal that may not be -/
theorem of_not {items : List ItemD} {wss : List (List (List Int))} {r : Int} {most : Int} (hl : lightC items.length wss = true) (hm : mayN items.length r wss ≠ 0) (h5 : most ≤ 200 ∨ 512 ≤ most) (h2 : most ≤ 2000000) (s0 s1 : Value) (w : World) (h0 : RItems w (Lt w.heap.size) s0 items) (hw : RIntsss w (Lt w.heap.size) s1 wss) :
    Calls Try.prog 15 #[.agg #[s0, s1, .int .i64 r], .int .i64 most] w fun e w' => (∃ A c, e = .returned (.tuple #[.slice A 0 c, .int .i64 0, .int .i64 1])) ∧ Below w.heap.size w w' := by
  obtain ⟨B, hB⟩ : ∃ B : List WantD → Except (Int × Int) Bool, ∀ m, IbR items (onlyW m wss) r most (B m) := Classical.axiomOfChoice fun m => ibR_some items (onlyW m wss) r most
  have hO : IbR items wss r most (.error (0, 1)) := .inl ⟨hm, rfl, by rw [light_may27 hl hm]; rfl⟩
  refine (of_any s0 s1 r most items wss w _ B h0 hw hl h5 h2 hO hB).mono ?_
  rintro e w' ⟨v, rfl, hr, hb⟩
  obtain ⟨A, c, rfl⟩ := hr.shape
  exact ⟨⟨A, c, rfl⟩, hb⟩
theorem OwnW.nilor {w : World} {B : Nat} {v : Value} {l : List WantD} (h : OwnW w B v l) : v = .slice none 0 0 ∨ 0 < l.length ∨ ∃ a m c, v = .slice (some a) m c := by
  rcases h.2 with ⟨rfl, -⟩ | ⟨g, cap, cur, rfl, -⟩
  · exact .inl rfl
  · exact .inr (.inr ⟨_, _, _, rfl⟩)
theorem refLeast_any' (s0 s1 : Value) (r : Int) (items : List ItemD) (wss : List (List (List Int))) (A : Option Addr) (n c B : Nat) (l : List WantD) (w : World) (h0 : RItems w (Lt w.heap.size) s0 items) (hw : RIntsss w (Lt w.heap.size) s1 wss)
    (hsl : OwnW w B (.slice A n c) l) (hl : lightC items.length wss = true) (hll : l.length ≤ 7000) :
    Calls Try.prog 18 #[.agg #[s0, s1, .int .i64 r], .slice A n c] w fun e w' => ∃ A' n' c', e = .returned (.slice A' n' c') ∧ RWants w' (Lt w'.heap.size) (.slice A' n' c') (leastL (fun m => blamedB items (onlyW m wss) r) l l) ∧ Below w.heap.size w w' := by
  refine (refLeast_any s0 s1 (.slice A n c) r items wss l w h0 hw (RWants.stable.sub hsl.reads fun b hb => hb.2) hsl.nilor hl (by omega)).mono ?_
  rintro e w' ⟨v, rfl, hr, hb⟩
  obtain ⟨A', c', rfl⟩ := hr.shape
  exact ⟨A', _, c', rfl, hr, hb⟩
theorem refAll_any' (A0 : Option Addr) (n0 c0 : Nat) (s1 : Value) (r : Int) (wss : List (List (List Int))) (w : World) (hw : RIntsss w (Lt w.heap.size) s1 wss) (hl : lightC n0 wss = true) :
    Calls Try.prog 14 #[.agg #[.slice A0 n0 c0, s1, .int .i64 r]] w fun e w' => ∃ A c, e = .returned (.slice A (allW wss).length c) ∧ OwnW w' w.heap.size (.slice A (allW wss).length c) (allW wss) ∧ Below w.heap.size w w' := by
  refine (refAll_any A0 n0 c0 s1 r wss w hw (rows_of_light hl).1 (rows_of_light hl).2.1).mono ?_
  rintro e w' ⟨v, rfl, ho, hb⟩
  obtain ⟨A, c, rfl⟩ := ho.shape
  exact ⟨A, c, rfl, ho, hb⟩
set_option maxRecDepth 100000 in
set_option maxHeartbeats 8000000 in
theorem walk_CoreOf (W : World) (v0 : Value) (a0 : Arg Try.prog W 25 v0) : Calls Try.prog 4 #[v0] W fun e W' => e = .returned (.bool true) ∧ Below W.heap.size W W' := by
  obtain ⟨s0, s1, r, items, wss, rfl, h0, h1, hr1, hr2⟩ := arg_deal a0
  obtain ⟨A0, c0, rfl, hm0, -⟩ := h0.open_
  obtain ⟨A1, c1, rfl, hm1, -⟩ := h1.open_
  have HD := Lib.hid (DB.start (r := r) h0 h1)
  obtain ⟨d0, d1, d2⟩ := HD.out.cells
  clear h0 h1 a0
  by_cases hl : lightC items.length wss = true
  case neg =>
    have Hl := Lib.hid (show lightC items.length wss = false by simpa using hl)
    clear hl
    go_enter Try.func4, Try.ntmps4
    go_wp2_with (first
      | (go_at_call 8; with_reducible refine (light27_any _ _ _ _ _ wss _ HD.out.rW).mono ?_; rintro e w1 ⟨rfl, hb⟩; rw [Hl.out]; have HD1 := Lib.hid (HD.out.up hb); clear hb)
      | (go_at_call 9; with_reducible refine (lives_any _).mono ?_; rintro e w2 ⟨rfl, hb⟩; have HB2 := Lib.hid (HD1.out.up hb).bel; clear hb))
    go_ret
    exact ⟨rfl, HB2.out⟩
  have Hl := Lib.hid hl
  have hll := all_le hl
  clear hl
  by_cases h10 : 10 < (allW wss).length
  · go_enter Try.func4, Try.ntmps4
    go_wp2_with (first
      | (go_at_call 8; with_reducible refine (light27_any _ _ _ _ _ wss _ HD.out.rW).mono ?_; rintro e w1 ⟨rfl, hb⟩; rw [Hl.out]; have HD1 := Lib.hid (HD.out.up hb); obtain ⟨e0, e1, e2⟩ := HD1.out.cells; clear hb)
      | (go_at_call 14; with_reducible refine (refAll_any' _ _ _ _ _ wss _ HD1.out.rW Hl.out).mono ?_; rintro e w2 ⟨A2, c2, rfl, ho, hb⟩; have HD2 := Lib.hid (HD1.out.up hb); clear hb ho)
      | (go_at_call 9; with_reducible refine (lives_any _).mono ?_; rintro e w3 ⟨rfl, hb⟩; have HB3 := Lib.hid (HD2.out.up hb).bel; clear hb))
    go_ret
    exact ⟨rfl, HB3.out⟩
  by_cases hm : mayN items.length r wss = 0
  case neg =>
    have Hm := Lib.hid hm
    have hmk : ((mayN items.length r wss : Nat) : Int) = 1 := by rw [light_may27 Hl.out hm]; rfl
    clear hm
    go_enter Try.func4, Try.ntmps4
    go_wp2_with (first
      | (go_at_call 8; with_reducible refine (light27_any _ _ _ _ _ wss _ HD.out.rW).mono ?_; rintro e w1 ⟨rfl, hb⟩; rw [Hl.out]; have HD1 := Lib.hid (HD.out.up hb); obtain ⟨e0, e1, e2⟩ := HD1.out.cells; clear hb)
      | (go_at_call 14; with_reducible refine (refAll_any' _ _ _ _ _ wss _ HD1.out.rW Hl.out).mono ?_; rintro e w2 ⟨A2, c2, rfl, ho, hb⟩; have HD2 := Lib.hid (HD1.out.up hb); obtain ⟨f0, f1, f2⟩ := HD2.out.cells; clear hb ho)
      | (go_at_call 15; with_reducible refine (of_not Hl.out Hm.out (.inr (by omega)) (by omega) _ _ _ HD2.out.rI HD2.out.rW).mono ?_; rintro e w3 ⟨⟨A3, c3, rfl⟩, hb⟩; have HD3 := Lib.hid (HD2.out.up hb); obtain ⟨g0, g1, g2⟩ := HD3.out.cells; clear hb)
      | (go_at_call 16; with_reducible refine (refMay_any _ _ _ _ _ wss _ HD3.out.rW).mono ?_; rintro e w4 ⟨rfl, hb⟩; rw [hmk]; have HD4 := Lib.hid (HD3.out.up hb); clear hb)
      | (go_at_call 9; with_reducible refine (lives_any _).mono ?_; rintro e w5 ⟨rfl, hb⟩; have HB5 := Lib.hid (HD4.out.up hb).bel; clear hb))
    go_ret
    exact ⟨rfl, HB5.out⟩
  have Hm := Lib.hid hm
  have Hm0 := Lib.hid (show ((mayN items.length r wss : Nat) : Int) = 0 by rw [hm]; rfl)
  clear hm
  cases hbl : blamedB items wss r with
  | false =>
    have Hbl := Lib.hid hbl
    clear hbl
    go_enter Try.func4, Try.ntmps4
    go_wp2_with (first
      | (go_at_call 8; with_reducible refine (light27_any _ _ _ _ _ wss _ HD.out.rW).mono ?_; rintro e w1 ⟨rfl, hb⟩; rw [Hl.out]; have HD1 := Lib.hid (HD.out.up hb); obtain ⟨e0, e1, e2⟩ := HD1.out.cells; clear hb)
      | (go_at_call 14; with_reducible refine (refAll_any' _ _ _ _ _ wss _ HD1.out.rW Hl.out).mono ?_; rintro e w2 ⟨A2, c2, rfl, ho, hb⟩; have HD2 := Lib.hid (HD1.out.up hb); obtain ⟨f0, f1, f2⟩ := HD2.out.cells; clear hb ho)
      | (go_at_call 15; with_reducible refine (of_many Hl.out Hm.out (by omega) (by omega) _ _ _ HD2.out.rI HD2.out.rW).mono ?_; rintro e w3 ⟨hq, hb⟩; go_loud (rw [Hbl.out] at hq; rcases hq with ⟨-, A3, c3, rfl⟩ | ⟨hq, -⟩; rotate_left; cases hq; have HD3 := Lib.hid (HD2.out.up hb); obtain ⟨g0, g1, g2⟩ := HD3.out.cells; clear hb))
      | (go_at_call 16; with_reducible refine (refMay_any _ _ _ _ _ wss _ HD3.out.rW).mono ?_; rintro e w4 ⟨rfl, hb⟩; rw [Hm0.out]; have HD4 := Lib.hid (HD3.out.up hb); obtain ⟨k0, k1, k2⟩ := HD4.out.cells; clear hb)
      | (go_at_call 17; with_reducible refine (blamed_any _ _ r items wss _ HD4.out.rI HD4.out.rW (by have := (rows_of_light Hl.out).2.2.1; omega)).mono ?_; rintro e w5 ⟨rfl, hb⟩; rw [Hbl.out]; have HD5 := Lib.hid (HD4.out.up hb); clear hb)
      | (go_at_call 9; with_reducible refine (lives_any _).mono ?_; rintro e w6 ⟨rfl, hb⟩; have HB6 := Lib.hid (HD5.out.up hb).bel; clear hb))
    go_ret
    exact ⟨rfl, HB6.out⟩
  | true =>
    have Hbl := Lib.hid hbl
    clear hbl
    go_enter Try.func4, Try.ntmps4
    go_upto_region 8 with (first
      | (go_at_call 8; with_reducible refine (light27_any _ _ _ _ _ wss _ HD.out.rW).mono ?_; rintro e w1 ⟨rfl, hb⟩; rw [Hl.out]; have HD1 := Lib.hid (HD.out.up hb); obtain ⟨e0, e1, e2⟩ := HD1.out.cells; clear hb)
      | (go_at_call 14; with_reducible refine (refAll_any' _ _ _ _ _ wss _ HD1.out.rW Hl.out).mono ?_; rintro e w2 ⟨A2, c2, rfl, ho, hb⟩; have HD2 := Lib.hid (HD1.out.up hb); obtain ⟨f0, f1, f2⟩ := HD2.out.cells; clear hb ho)
      | (go_at_call 15; with_reducible refine (of_many Hl.out Hm.out (by omega) (by omega) _ _ _ HD2.out.rI HD2.out.rW).mono ?_; rintro e w3 ⟨hq, hb⟩; go_loud (rw [Hbl.out] at hq; rcases hq with ⟨hq, -⟩ | ⟨-, A3, n3, c3, hn3, rfl, hr3⟩; cases hq; have HR3 := Lib.hid hr3; have Hn3 := Lib.hid hn3; have HD3 := Lib.hid (HD2.out.up hb); obtain ⟨g0, g1, g2⟩ := HD3.out.cells; have hb3 := hb; clear hb hr3 hn3))
      | (go_at_call 16; with_reducible refine (refMay_any _ _ _ _ _ wss _ HD3.out.rW).mono ?_; rintro e w4 ⟨rfl, hb⟩; rw [Hm0.out]; have HR4 := Lib.hid (RWants.stable.up HR3.out hb); have HD4 := Lib.hid (HD3.out.up hb); obtain ⟨k0, k1, k2⟩ := HD4.out.cells; clear hb)
      | (go_at_call 17; with_reducible refine (blamed_any _ _ r items wss _ HD4.out.rI HD4.out.rW (by have := (rows_of_light Hl.out).2.2.1; omega)).mono ?_; rintro e w5 ⟨rfl, hb⟩; rw [Hbl.out]; have HR5 := Lib.hid (RWants.stable.up HR4.out hb); have HD5 := Lib.hid (HD4.out.up hb); clear hb))
    obtain ⟨m0, m1, m2⟩ := HD5.out.cells
    clear d0 d1 d2 e0 e1 e2 f0 f1 f2 g0 g1 g2 k0 k1 k2 hb3
    go_region_held3 (fun w' => w'.cell? ⟨W.heap.size, 0, none⟩ = some (.slice A0 items.length c0) ∧ w'.cell? ⟨W.heap.size, 1, none⟩ = some (.slice A1 wss.length c1) ∧ w'.cell? ⟨W.heap.size, 2, none⟩ = some (.int .i64 r))
      (first | go_keep)
      (first
        | (go_at_call 14; go_loud (with_reducible refine (refAll_any' _ _ _ _ _ wss _ HD5.out.drew.rW Hl.out).mono ?_); rintro e w6 ⟨A6, c6, rfl, ho, hb⟩; have HO6 := Lib.hid ho; have HB6 := Lib.hid ((Below.refl w5.heap.size w5).drew.trans hb); have HD6 := Lib.hid (HD5.out.drew.up hb); obtain ⟨q0, q1, q2⟩ := HD6.out.cells; clear hb ho)
        | (go_at_call 18; with_reducible refine (refLeast_any' _ _ r items wss _ _ _ _ _ _ HD6.out.rI HD6.out.rW HO6.out Hl.out hll).mono ?_; rintro e w7 ⟨A7, n7, c7, rfl, hr7, hb⟩; have HR7 := Lib.hid hr7; have HB7 := Lib.hid (HB6.out.trans (hb.mono HB6.out.size)); have HD7 := Lib.hid (HD6.out.up hb); obtain ⟨t0, t1, t2⟩ := HD7.out.cells; clear hb hr7)
        | (go_at_call 12; with_reducible refine (same_any _ _ _ _ _ (RWants.stable.up HR5.out HB7.out) HR7.out).mono ?_; rintro e w8 ⟨rfl, hb⟩; rw [beq_self_eq_true]; have HD8 := Lib.hid (HD7.out.up hb); obtain ⟨y0, y1, y2⟩ := HD8.out.cells; clear hb)
        | (go_at_call 9; with_reducible refine (lives_any _).mono ?_; rintro e w9 ⟨rfl, hb⟩; have HD9 := Lib.hid (HD8.out.up hb); obtain ⟨z0, z1, z2⟩ := HD9.out.cells; clear hb))
    go_wp2
    go_ret
    exact ⟨rfl, HD9.out.bel⟩
end Go.Proofs.Ytcebafeaikipmaa
