/- The law CnfEncodes, walked. -/
import Derived.Test.YtlaihjhkghbfkaaCnfK1
namespace Go.Proofs.Ytlaihjhkghbfkaa
open Go.RowKit Go.Sort

theorem lightB_n0 {n0 : Nat} {wss : List (List (List Int))} (h : lightB n0 wss = true) : n0 ≤ 40 := by simp [lightB] at h; omega
theorem light_len {items : List ItemD} {wss : List (List (List Int))} {r : Int} (h : lightB items.length wss = true) (hm : mayN items.length r wss = 0) : (allCls items wss r).length ≤ 16384 := by
  have h1 := wcls_len (lightW_of h) 0
  have h2 := pairsTo_len items items.length
  have h3 := lightB_n0 h
  have h4 := (mayN_zero hm).2.2.1
  have h5 : items.length * items.length ≤ 40 * 40 := Nat.mul_le_mul h3 h3
  simp only [allCls, headCls, List.length_append, List.length_cons]
  omega
theorem light_may {n0 : Nat} {r : Int} {wss : List (List (List Int))} (h : lightB n0 wss = true) (hm : mayN n0 r wss ≠ 0) : mayN n0 r wss = 1 := by
  have h3 := lightB_n0 h
  unfold mayN at *
  rw [if_neg (by omega)] at *
  split
  · rfl
  · rename_i h1
    rw [if_neg h1] at hm
    split
    · rfl
    · rename_i h2; simp [h2] at hm

set_option maxRecDepth 100000 in
set_option maxHeartbeats 4000000 in
theorem walk_CnfEncodes (W : World) (v0 : Value) (a0 : Arg Try.prog W 25 v0) : Calls Try.prog 4 #[v0] W fun e W' => e = .returned (.bool true) ∧ Below W.heap.size W W' := by
  obtain ⟨s0, s1, r, items, wss, rfl, h0, h1, hr1, hr2⟩ := arg_deal a0
  have H0 := Lib.hid h0; have H1 := Lib.hid h1
  obtain ⟨A0, c0, rfl⟩ := h0.shape
  obtain ⟨A1, c1, rfl⟩ := h1.shape
  clear h0 h1 a0 hr1 hr2
  cases hl : lightB items.length wss with
  | false =>
    have Hl := Lib.hid hl; clear hl
    go_enter Try.func4, Try.ntmps4
    go_wp2_with (first
      | (go_at_call 9; refine (light_any _ _ _ _ _ wss _ (RIntsss.stable.up H1.out (below_alloc _ _))).mono ?_; rintro e w1 ⟨rfl, hb⟩; rw [Hl.out])
      | (go_at_call 10; refine (lives_any _).mono ?_; rintro e w2 ⟨rfl, hb2⟩))
    go_ret
    exact ⟨rfl, (below_alloc _ _).trans ((hb.mono (by simp)).trans (hb2.mono (by have := hb.size; simp at this; omega)))⟩
  | true =>
    have Hl := Lib.hid hl
    have Hlw := Lib.hid (lightW_of hl)
    by_cases hm : mayN items.length r wss = 0
    case neg =>
      have hm1 := light_may hl hm
      have He := Lib.hid (show encR items wss r = (0, [], 1) by simp [encR, hm1, errOf])
      have Hm := Lib.hid (show ((mayN items.length r wss : Nat) : Int) = 1 by rw [hm1]; rfl)
      clear hl hm hm1
      go_enter Try.func4, Try.ntmps4
      go_wp2_with (first
        | (go_at_call 9
           refine (light_any _ _ _ _ _ wss _ (RIntsss.stable.up H1.out (below_alloc _ _))).mono ?_
           rintro e w1 ⟨rfl, hb⟩
           rw [Hl.out]
           obtain ⟨hx0, hx1, hx2⟩ := box3 hb
           have Hb1 := Lib.hid ((below_alloc _ _).trans (hb.mono (by simp)))
           have hz1 : W.heap.size < w1.heap.size := (by have := hb.size; simp at this; omega)
           clear hb)
        | (go_at_call 13
           refine (Encode_any _ _ r items wss _ (RItems.stable.up H0.out Hb1.out) (RIntsss.stable.up H1.out Hb1.out) Hlw.out).mono ?_
           intro e w2 hp
           rw [EncodePost, He.out] at hp
           obtain ⟨s, rfl, hs, hb2⟩ := hp
           obtain ⟨As, cs, rfl⟩ := hs.shape
           have hy0 := (hb2.cell (p := ⟨W.heap.size, 0, none⟩) hz1).trans hx0
           have hy1 := (hb2.cell (p := ⟨W.heap.size, 1, none⟩) hz1).trans hx1
           have hy2 := (hb2.cell (p := ⟨W.heap.size, 2, none⟩) hz1).trans hx2
           have hz2 : W.heap.size < w2.heap.size := Nat.lt_of_lt_of_le hz1 hb2.size
           have Hb2 := Lib.hid (Hb1.out.trans (hb2.mono (Nat.le_of_lt hz1)))
           clear hx0 hx1 hx2 hs hb2)
        | (go_at_call 12
           refine (refMay_any _ _ _ _ _ wss _ (RIntsss.stable.up H1.out (Hb2.out.alloc (Nat.le_of_lt hz2) _))).mono ?_
           rintro e w3 ⟨rfl, hb3⟩
           rw [Hm.out]
           obtain ⟨hq0, hq1⟩ := box2 hb3
           have Hb3 := Lib.hid ((Hb2.out.alloc (Nat.le_of_lt hz2) _).trans (hb3.mono (by simp; omega)))
           clear hb3)
        | (go_at_call 10; refine (lives_any _).mono ?_; rintro e w4 ⟨rfl, hb4⟩))
      go_ret
      exact ⟨rfl, Hb3.out.trans (hb4.mono Hb3.out.size)⟩
    case pos =>
    have hlen := light_len hl hm
    have He := Lib.hid (show encR items wss r = ((items.length : Int), allCls items wss r, 0) by simp [encR, hm]; omega)
    have Hm := Lib.hid (show ((mayN items.length r wss : Nat) : Int) = 0 by rw [hm]; rfl)
    have Hmm := Lib.hid hm
    have Hle := Lib.hid (show decide ((allCls items wss r).length ≤ 16384) = true by simpa using hlen)
    clear hl hm hlen
    obtain ⟨cls, hcls⟩ : ∃ cls, cls = allCls items wss r := ⟨_, rfl⟩
    have Hcls := Lib.hid hcls
    rw [← hcls] at He
    clear hcls
    go_enter Try.func4, Try.ntmps4
    go_wp2_with (first
        | (go_at_call 9
           refine (light_any _ _ _ _ _ wss _ (RIntsss.stable.up H1.out (below_alloc _ _))).mono ?_
           rintro e w1 ⟨rfl, hb⟩
           rw [Hl.out]
           obtain ⟨hx0, hx1, hx2⟩ := box3 hb
           have Hb1 := Lib.hid ((below_alloc _ _).trans (hb.mono (by simp)))
           have hz1 : W.heap.size < w1.heap.size := (by have := hb.size; simp at this; omega)
           clear hb)
        | (go_at_call 13
           refine (Encode_any _ _ r items wss _ (RItems.stable.up H0.out Hb1.out) (RIntsss.stable.up H1.out Hb1.out) Hlw.out).mono ?_
           intro e w2 hp
           rw [EncodePost, He.out] at hp
           obtain ⟨s, rfl, hs, hb2⟩ := hp
           have Hs := Lib.hid hs
           obtain ⟨As, cs, rfl⟩ := hs.shape
           have hy0 := (hb2.cell (p := ⟨W.heap.size, 0, none⟩) hz1).trans hx0
           have hy1 := (hb2.cell (p := ⟨W.heap.size, 1, none⟩) hz1).trans hx1
           have hy2 := (hb2.cell (p := ⟨W.heap.size, 2, none⟩) hz1).trans hx2
           have hz2 : W.heap.size < w2.heap.size := Nat.lt_of_lt_of_le hz1 hb2.size
           have Hb2 := Lib.hid (Hb1.out.trans (hb2.mono (Nat.le_of_lt hz1)))
           clear hx0 hx1 hx2 hs hb2)
        | (go_at_call 12
           refine (refMay_any _ _ _ _ _ wss _ (RIntsss.stable.up H1.out (Hb2.out.alloc (Nat.le_of_lt hz2) _))).mono ?_
           rintro e w3 ⟨rfl, hb3⟩
           rw [Hm.out]
           obtain ⟨hq0, hq1⟩ := box2 hb3
           have Hb3 := Lib.hid ((Hb2.out.alloc (Nat.le_of_lt hz2) _).trans (hb3.mono (by simp; omega)))
           have Hb23 := Lib.hid ((below_alloc _ _).trans (hb3.mono (by simp)))
           have hu0 := (hb3.cell (p := ⟨W.heap.size, 0, none⟩) (by simp; omega)).trans ((below_alloc w2 _).cell (p := ⟨W.heap.size, 0, none⟩) hz2 |>.trans hy0)
           have hu1 := (hb3.cell (p := ⟨W.heap.size, 1, none⟩) (by simp; omega)).trans ((below_alloc w2 _).cell (p := ⟨W.heap.size, 1, none⟩) hz2 |>.trans hy1)
           have hu2 := (hb3.cell (p := ⟨W.heap.size, 2, none⟩) (by simp; omega)).trans ((below_alloc w2 _).cell (p := ⟨W.heap.size, 2, none⟩) hz2 |>.trans hy2)
           have hz3 : w2.heap.size < w3.heap.size := (by have := hb3.size; simp at this; omega)
           clear hb3 hy0 hy1 hy2)
        | (go_at_call 14
           refine (refEncode_any _ _ r items wss _ (RItems.stable.up H0.out Hb3.out) (RIntsss.stable.up H1.out Hb3.out) Hlw.out Hmm.out).mono ?_
           intro e w4 hp
           rw [EncRefPost, Hle.out, ← Hcls.out] at hp
           obtain ⟨s, rfl, hs, hb4⟩ := hp
           have Hs4 := Lib.hid hs
           obtain ⟨Ax, cx, rfl⟩ := hs.shape
           have hp0 := (hb4.cell (p := ⟨w2.heap.size, 0, none⟩) hz3).trans hq0
           have hp1 := (hb4.cell (p := ⟨w2.heap.size, 1, none⟩) hz3).trans hq1
           have hz4 : w2.heap.size < w4.heap.size := Nat.lt_of_lt_of_le hz3 hb4.size
           have Hb4 := Lib.hid (Hb3.out.trans (hb4.mono (by omega)))
           have Hb24 := Lib.hid (Hb23.out.trans (hb4.mono (Nat.le_of_lt hz3)))
           clear hq0 hq1 hu0 hu1 hu2 hs hb4))
    go_outline
    have hp0' := ((below_alloc w4 (.cells #[.int .i64 (items.length : Int), .slice Ax cls.length cx] 34)).cell (p := ⟨w2.heap.size, 0, none⟩) hz4).trans hp0
    have hp1' := ((below_alloc w4 (.cells #[.int .i64 (items.length : Int), .slice Ax cls.length cx] 34)).cell (p := ⟨w2.heap.size, 1, none⟩) hz4).trans hp1
    have Hq5 := Lib.hid (RIntss.stable.below Hs.out (Hb24.out.alloc (Nat.le_of_lt hz4) (.cells #[.int .i64 (items.length : Int), .slice Ax cls.length cx] 34)))
    have Hx5 := Lib.hid (RIntss.stable.up Hs4.out (below_alloc w4 (.cells #[.int .i64 (items.length : Int), .slice Ax cls.length cx] 34)))
    have Hb5 := Lib.hid (Hb4.out.alloc Hb4.out.size (.cells #[.int .i64 (items.length : Int), .slice Ax cls.length cx] 34))
    clear Hs Hs4 Hb1 Hb2 Hb3 Hb23 Hb24 Hb4 hp0 hp1 hz1 hz2 hz3 H0 H1 He Hm Hmm Hcls Hl Hlw
    generalize w4.alloc (.cells #[.int .i64 (items.length : Int), .slice Ax cls.length cx] 34) = w5 at *
    obtain ⟨Aq', cq', eq1, hmq, hatq⟩ := Hq5.out.open_
    obtain ⟨Ax', cx', ex1, hmx, hatx⟩ := Hx5.out.open_
    simp only [Value.slice.injEq] at eq1 ex1
    obtain ⟨rfl, _, rfl⟩ := eq1
    obtain ⟨rfl, _, rfl⟩ := ex1
    have Hatq := Lib.hid hatq
    have Hatx := Lib.hid hatx
    clear hatq hatx Hq5 Hx5
    go_loopw [71] (fun sv wr => ∃ k : Nat, k ≤ cls.length ∧ sv = .int .i64 k ∧ (∃ m, wr = w5.drewN m)) (fun sv _ => cls.length - (intOf sv).toNat)
    case atStart => exact ⟨0, Nat.zero_le _, rfl, ⟨0, rfl⟩⟩
    case round =>
      obtain ⟨k, hkle, rfl, ⟨m, rfl⟩⟩ := hrel
      by_cases hklt : k < cls.length
      · obtain ⟨bk, offk, uk, rfl, hbk, hcellk, huk⟩ := Hatx.out.lt_ hklt
        obtain ⟨bq, offq, uq, rfl, hbq, hcellq, huq⟩ := Hatq.out.lt_ hklt
        obtain ⟨A2, c2, rfl, hm2, hat2⟩ := huk.open_
        obtain ⟨A3, c3, rfl, hm3, hat3⟩ := huq.open_
        have Hat2 := Lib.hid hat2; have Hat3 := Lib.hid hat3
        clear hat2 hat3 huk huq
        go_wp2
        go_loopw [87] (fun sv wr => ∃ j : Nat, j ≤ cls[k].length ∧ sv = .int .i64 j ∧ (∃ m, wr = w5.drewN m)) (fun sv _ => cls[k].length - (intOf sv).toNat)
        case atStart => exact ⟨0, Nat.zero_le _, rfl, ⟨m, rfl⟩⟩
        case round =>
          obtain ⟨j, hjle, rfl, ⟨m2, rfl⟩⟩ := hrel
          by_cases hjlt : j < cls[k].length
          · obtain ⟨bj, offj, uj, rfl, hbj, hcellj, huj⟩ := Hat2.out.lt_ hjlt
            obtain ⟨bi, offi, ui, rfl, hbi, hcelli, hui⟩ := Hat3.out.lt_ hjlt
            obtain rfl := huj
            obtain rfl := hui
            go_wp2
            go_quiet (fail)
            go_wp2
            go_roundw
            case rel => exact ⟨j + 1, by omega, by go_num, ⟨_, rfl⟩⟩
            case measure => simp [intOf]; omega
          · obtain rfl : j = cls[k].length := by omega
            go_wp2
            go_roundw
            case rel => exact ⟨k + 1, by omega, by go_num, ⟨_, rfl⟩⟩
            case measure => simp [intOf]; omega
      · obtain rfl : k = cls.length := by omega
        go_wp2_with (go_at_call 10; refine (lives_any _).mono ?_; rintro e w6 ⟨rfl, hb6⟩)
        go_ret
        exact ⟨rfl, (below_drewN Hb5.out m).trans (hb6.mono (by have := Hb5.out.size; simpa using this))⟩
end Go.Proofs.Ytlaihjhkghbfkaa
