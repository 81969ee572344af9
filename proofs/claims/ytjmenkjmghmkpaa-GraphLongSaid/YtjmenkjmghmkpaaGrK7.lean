/- GraphLong: the law, walked. -/
import Derived.Test.YtjmenkjmghmkpaaGrO4
import Derived.Test.YtjmenkjmghmkpaaGrK0
import Derived.Deep.DeepCutAuto
namespace Go.Proofs.Ytjmenkjmghmkpaa
open Go.RowKit
open G22

/-- The line's nodes that are laid: those below i. -/
def rowV (D i j : Nat) : Value := if j < i then .slice (some ⟨D + 1 + j, 0, none⟩) 1 1 else .slice none 0 0
def lineV (D M i : Nat) : List Value := (List.range (M + 1)).map (rowV D i)
structure LineAt (W : World) (D M i : Nat) (w : World) : Prop where
  blk : VBlk w D 25 (lineV D M i)
  row : ∀ j, j < i → VBlk w (D + 1 + j) 3 [natV (j + 1)]
  size : w.heap.size = D + 1 + i
  below : Below D W w
theorem lineV_set {D M i : Nat} : (lineV D M i).set i (.slice (some ⟨D + 1 + i, 0, none⟩) 1 1) = lineV D M (i + 1) := by
  refine List.ext_getElem (by simp [lineV]) fun x h1 h2 => ?_
  rw [List.getElem_set]
  simp only [lineV, List.getElem_map, List.getElem_range, rowV]
  split
  · next e => subst e; rw [if_pos (by omega)]
  · next e =>
    by_cases h : x < i
    · rw [if_pos h, if_pos (by omega)]
    · rw [if_neg h, if_neg (by omega)]
theorem LineAt.step {W w : World} {D M i x : Nat} (h : LineAt W D M i w) (hx : x = i + 1) : LineAt W D M (i + 1) ((w.alloc (.cells #[natV x] 3)).setCell ⟨D, i, none⟩ (.slice (some ⟨D + 1 + i, 0, none⟩) 1 1)) := by
  subst hx
  refine ⟨?_, fun j hj => ?_, by simp [h.size]; omega, ((h.below.alloc (by rw [h.size]; omega) _).setCell (p := ⟨D, i, none⟩) (Nat.le_refl _) _)⟩
  · rw [← lineV_set]
    exact (h.blk.alloc _).set i _
  · rcases Nat.lt_or_ge j i with h1 | h1
    · exact ((h.row j h1).alloc _).far (by show D + 1 + j ≠ D; omega) _
    · obtain rfl : j = i := by omega
      have := vblk_new w 3 #[natV (j + 1)]
      rw [h.size] at this
      exact VBlk.far this (by show D + 1 + j ≠ D; omega) _
theorem LineAt.reads {W w : World} {D M : Nat} (h : LineAt W D M M w) (hM : M ≤ 100000) : RNatss w (Lt w.heap.size) (.slice (some ⟨D, 0, none⟩) (M + 1) (M + 1)) (longG M false) := by
  refine rows_block h.blk (by show D < w.heap.size; rw [h.size]; omega) (longG_length M false) (by omega) (by simp [lineV, longG_length]) fun i hi u hu => ?_
  have hi' : i < M + 1 := by rw [longG_length] at hi; exact hi
  rw [← row_at hi, long_row false hi']
  unfold lineV at hu
  rw [List.getElem?_map, List.getElem?_range hi'] at hu
  simp only [Option.map_some, Option.some.injEq] at hu
  subst hu
  unfold rowV
  by_cases h1 : i < M
  · rw [if_pos h1, if_pos h1]
    exact nats_block (h.row i h1) (by show _ < w.heap.size; rw [h.size]; omega) rfl (by omega)
  · rw [if_neg h1, if_neg h1]
    exact RSl.nil_ _ _ _
theorem LineAt.round {W w : World} {D M : Nat} (h : LineAt W D M M w) (hM : M ≤ 100000) : RNatss ((w.alloc (.cells #[.int .i64 0] 3)).setCell ⟨D, M, none⟩ (.slice (some ⟨D + 1 + M, 0, none⟩) 1 1)) (Lt ((w.alloc (.cells #[.int .i64 0] 3)).setCell ⟨D, M, none⟩ (.slice (some ⟨D + 1 + M, 0, none⟩) 1 1)).heap.size) (.slice (some ⟨D, 0, none⟩) (M + 1) (M + 1)) (longG M true) := by
  have hs : ((w.alloc (.cells #[.int .i64 0] 3)).setCell ⟨D, M, none⟩ (.slice (some ⟨D + 1 + M, 0, none⟩) 1 1)).heap.size = D + 1 + M + 1 := by simp [h.size]
  have hv : VBlk ((w.alloc (.cells #[.int .i64 0] 3)).setCell ⟨D, M, none⟩ (.slice (some ⟨D + 1 + M, 0, none⟩) 1 1)) D 25 (lineV D M (M + 1)) := by
    rw [← lineV_set]
    exact (h.blk.alloc _).set M _
  refine rows_block hv (by show D < _; rw [hs]; omega) (longG_length M true) (by omega) (by simp [lineV, longG_length]) fun i hi u hu => ?_
  have hi' : i < M + 1 := by rw [longG_length] at hi; exact hi
  rw [← row_at hi, long_row true hi']
  unfold lineV at hu
  rw [List.getElem?_map, List.getElem?_range hi'] at hu
  simp only [Option.map_some, Option.some.injEq] at hu
  subst hu
  unfold rowV
  rw [if_pos hi']
  by_cases h1 : i < M
  · rw [if_pos h1]
    exact nats_block (VBlk.far ((h.row i h1).alloc _) (by show D + 1 + i ≠ D; omega) _) (by show _ < _; rw [hs]; omega) rfl (by omega)
  · rw [if_neg h1, if_pos rfl]
    obtain rfl : i = M := by omega
    have := vblk_new w 3 #[.int .i64 0]
    rw [h.size] at this
    exact nats_block (l := [0]) (VBlk.far this (by show D + 1 + i ≠ D; omega) _) (by show _ < _; rw [hs]; omega) rfl (by omega)
set_option maxRecDepth 100000 in
set_option maxHeartbeats 4000000 in
theorem walk_GraphLong (W : World) (v0 : Value) (v1 : Value) (a0 : Arg Try.prog W 3 v0) (a1 : Arg Try.prog W 4 v1) : Calls Try.prog 9 #[v0, v1] W fun e W' => e = .returned (.bool true) ∧ Below W.heap.size W W' := by
  obtain ⟨n, rfl, hn1, hn2⟩ := arg_int a0
  obtain ⟨rb, rfl⟩ := arg_bool a1
  clear a0 a1
  go_enter Try.func9, Try.ntmps9
  go_upto_region 2 with (fail)
  have hN : ∃ M : Nat, 1 ≤ M ∧ M ≤ 2999 ∧ (if 2 < if 3000 < n then 3000 else n then if 3000 < n then 3000 else n else 2) = (M : Int) + 1 := by
    by_cases h1 : 3000 < n
    · exact ⟨2999, by omega, by omega, by rw [if_pos h1]; rfl⟩
    · rw [if_neg h1]
      by_cases h2 : 2 < n
      · exact ⟨(n - 1).toNat, by omega, by omega, by rw [if_pos h2]; omega⟩
      · exact ⟨1, by omega, by omega, by rw [if_neg h2]; rfl⟩
  obtain ⟨M, hM1, hM2, hMe⟩ := hN
  rw [hMe]
  obtain ⟨z, hz⟩ : ∃ z, z = (if 3000 < n then (3000 : Int) else n) := ⟨_, rfl⟩
  rw [← hz]
  clear hMe hn1 hn2 hz
  have hmk := run_makeRows (M + 1) (by omega)
  rw [show ((M + 1 : Nat) : Int) = (M : Int) + 1 by omega] at hmk
  have H0 := Lib.hid (show LineAt W W.heap.size M 0 (W.alloc (.cells (madeCells #[.slice none 0 0] (M + 1)) 25)) from ⟨by
    have := vblk_made W 25 (.slice none 0 0) (M + 1)
    rwa [show lineV W.heap.size M 0 = List.replicate (M + 1) (.slice none 0 0) from List.ext_getElem (by simp [lineV]) fun i h1 h2 => by simp [lineV, rowV]], fun j hj => absurd hj (Nat.not_lt_zero _), by simp, below_alloc _ _⟩)
  obtain ⟨D, hD⟩ : ∃ D, D = W.heap.size := ⟨_, rfl⟩
  rw [← hD] at H0
  have HD := Lib.hid hD
  go_wp2
  rw [← hD]
  clear hD hmk
  generalize W.alloc (.cells (madeCells #[.slice none 0 0] (M + 1)) 25) = w1 at *
  go_loopw [18] (fun sv wr => ∃ i : Nat, i ≤ M ∧ sv = .int .i64 i ∧ Hid (LineAt W D M i wr)) (fun sv _ => M - (intOf sv).toNat)
  case atStart => exact ⟨0, Nat.zero_le _, rfl, H0.out⟩
  case round =>
    obtain ⟨w2, rfl⟩ : ∃ w0 : World, w0 = wr := ⟨_, rfl⟩
    obtain ⟨i, hile, rfl, HLi⟩ := hrel
    by_cases hilt : i < M
    · have hsz := HLi.out.size
      have HS := Lib.hid (HLi.out.step (x := i + 1) rfl)
      rw [show natV (i + 1) = .int .i64 ((i : Int) + 1) from rfl] at HS
      have hcell := (HLi.out.blk.alloc (.cells #[.int .i64 ((i : Int) + 1)] 3)).cell (i := i) (u := rowV D i i) (by unfold lineV; rw [List.getElem?_map, List.getElem?_range (by omega)]; rfl)
      have hfr := (HLi.out.blk.alloc (.cells #[.int .i64 ((i : Int) + 1)] 3)).frozen i
      rw [show rowV D i i = .slice none 0 0 from if_neg (Nat.lt_irrefl _)] at hcell
      have hDl : D < w2.heap.size := by omega
      go_wp2
      go_roundw
      case rel => exact ⟨i + 1, by omega, by go_num, HS.out⟩
      case measure => simp [intOf]; omega
    · obtain rfl : i = M := by omega
      obtain ⟨M, rfl⟩ : ∃ M0, M0 = i := ⟨_, rfl⟩
      have hsz := HLi.out.size
      cases rb with
      | false =>
        have Hs5 := Lib.hid (HLi.out.reads (by omega))
        have HB5 := Lib.hid (show Below W.heap.size W w2 by rw [← HD.out]; exact HLi.out.below)
        obtain ⟨w5, rfl⟩ : ∃ w0 : World, w0 = w2 := ⟨_, rfl⟩
        clear HLi hsz
        have hGl := longG_length M false
        have hrw : ∀ a, (row (longG M false) a).length ≤ 100000 := fun a => Nat.le_trans (long_rows M false a) (by omega)
        have HcG := Lib.hid (show ∀ w, RNatss w (Lt w.heap.size) (.slice (some ⟨D, 0, none⟩) (M + 1) (M + 1)) (longG M false) → Calls Try.prog 19 #[.slice (some ⟨D, 0, none⟩) (M + 1) (M + 1)] w (GroupsPost (longG M false) w) from fun w hs => by
          have := Groups_any (longG M false) w (some ⟨D, 0, none⟩) (M + 1) (by rw [hGl]; exact hs) (long_ok M false) (by omega) hrw
          rwa [hGl] at this)
        have HcO := Lib.hid (show ∀ w, RNatss w (Lt w.heap.size) (.slice (some ⟨D, 0, none⟩) (M + 1) (M + 1)) (longG M false) → Calls Try.prog 17 #[.slice (some ⟨D, 0, none⟩) (M + 1) (M + 1)] w (OrderPost (longG M false) w) from fun w hs => by
          have := Order_any (longG M false) w (some ⟨D, 0, none⟩) (M + 1) (by rw [hGl]; exact hs) (long_ok M false) (by omega) hrw
          rwa [hGl] at this)
        have HcD := Lib.hid (fun (w : World) (hs : RNatss w (Lt w.heap.size) (.slice (some ⟨D, 0, none⟩) (M + 1) (M + 1)) (longG M false)) => Depth_any _ (longG M false) 0 w hs (long_ok M false) (by omega) (by omega))
        have HcP := Lib.hid (fun (w : World) (hs : RNatss w (Lt w.heap.size) (.slice (some ⟨D, 0, none⟩) (M + 1) (M + 1)) (longG M false)) => Path_any _ (longG M false) 0 M w hs (long_ok M false) (by omega) (by omega) (by omega) hrw)
        have HcC := Lib.hid (fun (w : World) (hs : RNatss w (Lt w.heap.size) (.slice (some ⟨D, 0, none⟩) (M + 1) (M + 1)) (longG M false)) => Cycle_any _ (longG M false) w hs (long_ok M false) (by omega) hrw)
        clear hGl hrw
        go_wp2_with (first
          | (go_at_call 19
             with_reducible refine (HcG.out w5 Hs5.out).mono ?_
             rintro e w6 ⟨v6, L6, rfl, hv6, hp6, hb6⟩
             obtain rfl := hp6.unique (line_groups M)
             obtain ⟨A6, c6, rfl, _, hat6⟩ := hv6.open_
             have Hat6 := Lib.hid hat6
             have HB6 := Lib.hid (below_up HB5.out hb6)
             have Hs6 := Lib.hid (RNatss.stable.up Hs5.out hb6)
             have hl6 : ((List.range (M + 1)).map fun x => [x]).length = M + 1 := (by simp)
             rw [hl6]
             clear hl6
             clear hv6 hp6 hb6 hat6)
          | (go_at_call 17
             with_reducible refine (HcO.out w6 Hs6.out).mono ?_
             rintro e w7 ⟨v7, L7, hp7, hb7, ho7⟩
             obtain rfl := hp7.unique (line_groups M)
             rw [line_order M, line_heads] at ho7
             have ho8 : e = .returned (.tuple #[v7, .bool true]) ∧ RNats w7 (Lt w7.heap.size) v7 (List.range (M + 1)) := (by
               rcases ho7 with ⟨_, h1, h2⟩ | ⟨hx, _⟩
               · exact ⟨h1, h2⟩
               · cases hx)
             obtain ⟨rfl, hv7⟩ := ho8
             obtain ⟨A7, c7, rfl, _, hat7⟩ := hv7.open_
             rw [List.length_range]
             have Hat7 := Lib.hid hat7
             clear hv7 hat7
             have HB7 := Lib.hid (below_up HB6.out hb7)
             have HB67 := Lib.hid hb7
             have Hs7 := Lib.hid (RNatss.stable.up Hs6.out hb7)
             clear hp7 hb7)
          | (go_at_call 15
             refine (HcD.out w7 Hs7.out).mono ?_
             rintro e w8 ⟨d8, hd8, rfl, hV8, hb8⟩
             obtain rfl := hd8.unique (long_depth M false)
             rw [longG_length]
             have hcd : w8.cell? ⟨w7.heap.size, M, none⟩ = some (.int .i64 (M : Nat)) := (by
               rw [hV8.int (i := M) (by simp [longD])]
               simp [longD])
             have HB8 := Lib.hid (below_up HB7.out hb8)
             have HB68 := Lib.hid (below_up HB67.out hb8)
             have HB78 := Lib.hid hb8
             have Hs8 := Lib.hid (RNatss.stable.up Hs7.out hb8)
             clear hd8 hV8 hb8)
          | (go_at_call 16
             refine (HcP.out w8 Hs8.out).mono ?_
             rintro e w9 ⟨d9, v9, hd9, rfl, hv9, hb9⟩
             obtain ⟨A9, c9, rfl, _, _⟩ := hv9.open_
             rw [long_path hd9]
             have HB9 := Lib.hid (below_up HB8.out hb9)
             have HB69 := Lib.hid (below_up HB68.out hb9)
             have HB79 := Lib.hid (below_up HB78.out hb9)
             have Hs9 := Lib.hid (RNatss.stable.up Hs8.out hb9)
             obtain ⟨b7, o7, u7, rfl, _, hc7, hu7⟩ := Hat7.out.at_ RNat.stable (ag_of_below HB79.out) (k := M) (by simp)
             obtain rfl := hu7
             rw [show natV (List.range (M + 1))[M] = .int .i64 (M : Nat) by simp [natV]] at hc7
             clear hd9 hv9 hb9)
          | (go_at_call 11; refine (lives_in W _ HB9.out).mono ?_; rintro e w12 ⟨rfl, hb12⟩; have HB12 := Lib.hid hb12; clear hb12))
        go_ret
        exact ⟨rfl, HB12.out⟩
      | true =>
        have Hs5 := Lib.hid (HLi.out.round (by omega))
        have HB5 := Lib.hid (show Below W.heap.size W ((w2.alloc (.cells #[.int .i64 0] 3)).setCell ⟨D, M, none⟩ (.slice (some ⟨D + 1 + M, 0, none⟩) 1 1)) by rw [← HD.out]; exact (HLi.out.below.alloc (by omega) _).setCell (p := ⟨D, M, none⟩) (Nat.le_refl _) _)
        have hcell := (HLi.out.blk.alloc (.cells #[.int .i64 0] 3)).cell (i := M) (u := rowV D M M) (by unfold lineV; rw [List.getElem?_map, List.getElem?_range (by omega)]; rfl)
        have hfr := (HLi.out.blk.alloc (.cells #[.int .i64 0] 3)).frozen M
        rw [show rowV D M M = .slice none 0 0 from if_neg (Nat.lt_irrefl _)] at hcell
        have hDl : D < w2.heap.size := by omega
        clear HLi
        go_upto_region 10 with (fail)
        clear hsz hcell hfr hDl
        generalize (w2.alloc (.cells #[.int .i64 0] 3)).setCell ⟨D, M, none⟩ (.slice (some ⟨D + 1 + M, 0, none⟩) 1 1) = w5 at *
        have hGl := longG_length M true
        have hrw : ∀ a, (row (longG M true) a).length ≤ 100000 := fun a => Nat.le_trans (long_rows M true a) (by omega)
        have HcG := Lib.hid (show ∀ w, RNatss w (Lt w.heap.size) (.slice (some ⟨D, 0, none⟩) (M + 1) (M + 1)) (longG M true) → Calls Try.prog 19 #[.slice (some ⟨D, 0, none⟩) (M + 1) (M + 1)] w (GroupsPost (longG M true) w) from fun w hs => by
          have := Groups_any (longG M true) w (some ⟨D, 0, none⟩) (M + 1) (by rw [hGl]; exact hs) (long_ok M true) (by omega) hrw
          rwa [hGl] at this)
        have HcO := Lib.hid (show ∀ w, RNatss w (Lt w.heap.size) (.slice (some ⟨D, 0, none⟩) (M + 1) (M + 1)) (longG M true) → Calls Try.prog 17 #[.slice (some ⟨D, 0, none⟩) (M + 1) (M + 1)] w (OrderPost (longG M true) w) from fun w hs => by
          have := Order_any (longG M true) w (some ⟨D, 0, none⟩) (M + 1) (by rw [hGl]; exact hs) (long_ok M true) (by omega) hrw
          rwa [hGl] at this)
        have HcD := Lib.hid (fun (w : World) (hs : RNatss w (Lt w.heap.size) (.slice (some ⟨D, 0, none⟩) (M + 1) (M + 1)) (longG M true)) => Depth_any _ (longG M true) 0 w hs (long_ok M true) (by omega) (by omega))
        have HcP := Lib.hid (fun (w : World) (hs : RNatss w (Lt w.heap.size) (.slice (some ⟨D, 0, none⟩) (M + 1) (M + 1)) (longG M true)) => Path_any _ (longG M true) 0 M w hs (long_ok M true) (by omega) (by omega) (by omega) hrw)
        have HcC := Lib.hid (fun (w : World) (hs : RNatss w (Lt w.heap.size) (.slice (some ⟨D, 0, none⟩) (M + 1) (M + 1)) (longG M true)) => Cycle_any _ (longG M true) w hs (long_ok M true) (by omega) hrw)
        clear hGl hrw
        go_wp2_with (first
          | (go_at_call 19
             with_reducible refine (HcG.out w5 Hs5.out).mono ?_
             rintro e w6 ⟨v6, L6, rfl, hv6, hp6, hb6⟩
             obtain rfl := hp6.unique (round_groups M)
             obtain ⟨A6, c6, rfl, _, hat6⟩ := hv6.open_
             have Hat6 := Lib.hid hat6
             have HB6 := Lib.hid (below_up HB5.out hb6)
             have Hs6 := Lib.hid (RNatss.stable.up Hs5.out hb6)
             have hl6 : ([List.range (M + 1)] : List (List Nat)).length = 1 := rfl
             rw [hl6]
             clear hl6
             clear hv6 hp6 hb6 hat6)
          | (go_at_call 17
             with_reducible refine (HcO.out w6 Hs6.out).mono ?_
             rintro e w7 ⟨v7, L7, hp7, hb7, ho7⟩
             obtain rfl := hp7.unique (round_groups M)
             rw [round_order hM1] at ho7
             rcases ho7 with ⟨hx, _⟩ | ⟨_, rfl⟩
             · cases hx
             have HB7 := Lib.hid (below_up HB6.out hb7)
             have HB67 := Lib.hid hb7
             have Hs7 := Lib.hid (RNatss.stable.up Hs6.out hb7)
             clear hp7 hb7)
          | (go_at_call 15
             refine (HcD.out w7 Hs7.out).mono ?_
             rintro e w8 ⟨d8, hd8, rfl, hV8, hb8⟩
             obtain rfl := hd8.unique (long_depth M true)
             rw [longG_length]
             have hcd : w8.cell? ⟨w7.heap.size, M, none⟩ = some (.int .i64 (M : Nat)) := (by
               rw [hV8.int (i := M) (by simp [longD])]
               simp [longD])
             have HB8 := Lib.hid (below_up HB7.out hb8)
             have HB68 := Lib.hid (below_up HB67.out hb8)
             have HB78 := Lib.hid hb8
             have Hs8 := Lib.hid (RNatss.stable.up Hs7.out hb8)
             clear hd8 hV8 hb8)
          | (go_at_call 16
             refine (HcP.out w8 Hs8.out).mono ?_
             rintro e w9 ⟨d9, v9, hd9, rfl, hv9, hb9⟩
             obtain ⟨A9, c9, rfl, _, _⟩ := hv9.open_
             rw [long_path hd9]
             have HB9 := Lib.hid (below_up HB8.out hb9)
             have HB69 := Lib.hid (below_up HB68.out hb9)
             have HB79 := Lib.hid (below_up HB78.out hb9)
             have Hs9 := Lib.hid (RNatss.stable.up Hs8.out hb9)
             obtain ⟨b6, o6, u6, rfl, _, hc6, hu6⟩ := Hat6.out.at_ RNats.stable (ag_of_below HB69.out) (k := 0) (by simp)
             obtain ⟨A60, c60, rfl, _, _⟩ := hu6.open_
             rw [show ([List.range (M + 1)] : List (List Nat))[0].length = M + 1 by simp, Nat.add_zero] at hc6
             clear hu6
             clear hd9 hv9 hb9)
          | (go_at_call 20
             refine (HcC.out w9 Hs9.out).mono ?_
             rintro e w10 ⟨v10, rfl, hv10, hb10⟩
             obtain ⟨A10, c10, rfl, _, _⟩ := hv10.open_
             rw [round_cycle M]
             have HB10 := Lib.hid (below_up HB9.out hb10)
             clear hv10 hb10)
          | (go_at_call 11; refine (lives_in W _ HB10.out).mono ?_; rintro e w12 ⟨rfl, hb12⟩; have HB12 := Lib.hid hb12; clear hb12))
        go_ret
        exact ⟨rfl, HB12.out⟩
end Go.Proofs.Ytjmenkjmghmkpaa
