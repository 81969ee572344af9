/- PropGreat: the law, walked. (Written by mkPrK4.py.) -/
import Derived.Test.YtpgdioopkcfjdaaPrK3
import Derived.Test.YtpgdioopkcfjdaaPrX12
import Derived.Test.YtpgdioopkcfjdaaPrD6
namespace Go.Proofs.Ytpgdioopkcfjdaa
open Go.RowKit

theorem lit1_own (w : World) (a b : Bs) : POwn (w.alloc (.cells #[sv a, sv b] 42)) w.heap.size (.slice (some ⟨w.heap.size, 0, none⟩) 1 1) [(a, b)] :=
  World.ownsRow_lit (base := w.heap.size) (e := 42) (size := 2) w #[sv a, sv b] 1 (Nat.le_refl _) (by unfold maxLen; omega) rfl
theorem none_exp : expP [] [] [36, 123, 49, 125] = (.ok [36, 123, 49, 125], []) := by decide +kernel
theorem concatD (E : Bs) (h : E.length ≤ 1000000) (w : World) : (Op.stringOp .add (bz E) (bz E)).run Try.prog w = .ok (sv (E ++ E)) w :=
  (run_string_add_sum (P := Try.prog) (w := w) (bz E) (bz E) (by rw [bz_size]; omega)).trans (by rw [bz_append])
theorem refTo_len (k : Nat) : (refTo k).length ≤ 1000000 := by
  have : (digs k).length ≤ 2 := by unfold digs; split <;> simp
  unfold refTo
  simp
  omega
theorem concatE (n : Nat) (w : World) : (Op.stringOp .add (bz (36 :: 123 :: digs n)) ⟨#[125]⟩).run Try.prog w = .ok (sv (refTo n)) w := concat2 (digs n) (digs_len n) w
theorem wrap_len {n : Nat} (h : n < 1000) : wrap64 ((n : Nat) : Int) = (n : Nat) := by unfold wrap64; omega
theorem doneTo_length (v : Bs) (k : Nat) : (doneTo v k).length = k := by simp [doneTo]
set_option maxRecDepth 100000 in
set_option maxHeartbeats 16000000 in
theorem walk_PropGreat (m : Int) (W : World) (hm : MaxAt m W) (v0 v1 v2 : Value) (a0 : Arg Try.prog W 3 v0) (a1 : Arg Try.prog W 5 v1) (a2 : Arg Try.prog W 4 v2) : Calls Try.prog 7 #[v0, v1, v2] W fun e W' => e = .returned (.bool true) ∧ Below W.heap.size W W' := by
  obtain ⟨n, rfl, -, -⟩ := arg_int a0
  obtain ⟨b, rfl, hb0, hb1⟩ := arg_byte a1
  obtain ⟨empty, rfl⟩ := arg_bool a2
  clear a0 a1 a2
  have HM := Lib.hid hm
  have hpos := hm.lt
  clear hm
  obtain ⟨N, hN, hN1⟩ : ∃ N : Nat, max 0 (min n 30) = (N : Nat) ∧ N ≤ 30 := ⟨(max 0 (min n 30)).toNat, by omega, by omega⟩
  have HNe := Lib.hid hN
  clear hN
  obtain ⟨c, hc⟩ : ∃ c : UInt8, (c.toNat : Int) = b := ⟨UInt8.ofNat b.toNat, by rw [ofNat_n (k := b.toNat) (by omega)]; omega⟩
  have hcv := conv_one (W.alloc (.cells #[.int .u8 b] 5)) W.heap.size c (by rw [hc]; exact one_new W _ _)
  have HB0 := Lib.hid (below_alloc W (.cells #[.int .u8 b] 5))
  clear hc
  have c0 : (⟨#[]⟩ : ByteArray) = bz [] := rfl
  have c1 : (⟨#[49]⟩ : ByteArray) = bz (digs 1) := rfl
  cases empty with
  | true =>
    go_enter Try.func7, Try.ntmps7
    go_wp2
    rw [HNe.out]
    obtain ⟨K, hK⟩ : ∃ K : Int, K = min n 30 := ⟨_, rfl⟩
    rw [← hK]
    clear hK
    obtain ⟨Z, hZ⟩ : ∃ Z : Nat, Z = W.heap.size + 1 := ⟨_, rfl⟩
    have HZ := Lib.hid hZ
    have HO0 := Lib.hid (lit1_own (W.alloc (.cells #[.int .u8 b] 5)) (digs 1) [])
    rw [World.size_alloc] at HO0
    have HBs := Lib.hid (HB0.out.alloc (show W.heap.size ≤ (W.alloc (.cells #[.int .u8 b] 5)).heap.size by simp) (.cells #[sv (digs 1), sv []] 42))
    rw [← hZ] at HO0 ⊢
    clear hZ hcv c0 c1
    go_loopw [42, 8] (fun kv lv wr => ∃ k : Nat, k ≤ N ∧ kv = .int .i64 k ∧ Hid (POwn wr Z lv (greatL k [])) ∧ Hid (Below W.heap.size W wr) ∧ Hid (Z ≤ wr.heap.size)) (fun kv _ _ => N - (intOf kv).toNat)
    case atStart => exact ⟨0, Nat.zero_le _, rfl, HO0, HBs, Lib.hid (by have := HZ.out; simp; omega)⟩
    case round =>
      obtain ⟨lv, hlv⟩ : ∃ lv, lv = u8 := ⟨_, rfl⟩
      rw [← hlv] at hrel ⊢
      clear hlv
      obtain ⟨k, hkle, rfl, HR, HB, Hsz⟩ := hrel
      rcases Nat.lt_or_ge k N with hk | hk
      · have HS := Lib.hid (greatL_snoc [] k)
        have Hlen := Lib.hid (show (greatL k []).length < 1000000000000 by simp [greatL]; omega)
        generalize greatL k [] = U at HR HS Hlen
        have H1 := Lib.hid (fun w => Number_int ((k : Int) + 1) (k + 1) w (by omega) (by omega))
        have H2 := Lib.hid (fun w => Number_int ((k : Int) + 2) (k + 2) w (by omega) (by omega))
        have x1 := fun w => concat1 (digs (k + 1)) (digs_len _) w
        have x2 := fun w => concatE (k + 1) w
        have x3 := fun w => concatD (refTo (k + 1)) (refTo_len _) w
        obtain ⟨F, hF⟩ : ∃ F, F = refTo (k + 1) ++ refTo (k + 1) := ⟨_, rfl⟩
        rw [← hF] at x3 HS
        generalize refTo (k + 1) = E at x2 x3
        clear hF
        go_wp2_with (first
          | (go_at_call 20; with_reducible refine (H1.out _).mono ?_; rintro e w1 ⟨rfl, h1⟩; (have HB1 := Lib.hid h1; clear h1))
          | (go_at_call 20; with_reducible refine (H2.out _).mono ?_; rintro e w2 ⟨rfl, h1⟩; (have HB2 := Lib.hid (HB1.out.trans (h1.mono HB1.out.size)); clear h1))
          | (at_builtin; refine wpList_pushP rfl _ _ rfl (v := lv) rfl ((HR.out.new HB2.out).alloc _) w2.heap.size (digs (k + 2), F) rfl (two_new _ _ _ _).1 (two_new _ _ _ _).2 Hlen.out (by have := HB2.out.size; have := Hsz.out; simp; omega) ?_; intro v5 w5 hown5 hg5 hat5))
        have hs1 := Hsz.out
        have hs2 := HB2.out.size
        have hs3 := HB.out.size
        have HW5 := Lib.hid (((HB.out.trans (HB2.out.mono hs3)).alloc (show W.heap.size ≤ w2.heap.size by omega) _).grown hg5 (by simp; omega) (fun g hg => by have := (HR.out.lt g hg).1; have := HZ.out; omega))
        have HO5 := Lib.hid (show POwn w5 Z v5 (greatL (k + 1) []) by rw [HS.out]; exact hown5)
        have Hs5 := Lib.hid (show Z ≤ w5.heap.size by have := hg5.size; simp at this; omega)
        clear hown5 hg5 hat5
        go_roundw
        case rel => exact ⟨k + 1, by omega, by go_num, HO5, HW5, Hs5⟩
        case measure => simp [intOf]; omega
      · obtain rfl : k = N := by omega
        have HN := Lib.hid (New_any lv (greatL k []) wr (props_of_own HR.out fun g hg => (HR.out.lt g hg).2) (by simp [greatL]; omega))
        have HL := Lib.hid (greatL_small k [] (by decide))
        have HMr := Lib.hid (HM.out.below HB.out hpos)
        have H1 := Lib.hid (fun w => Number_int ((k : Int) + 1) (k + 1) w (by omega) (by omega))
        have x1 := fun w => concat1 (digs (k + 1)) (digs_len _) w
        have x2 := fun w => concatE (k + 1) w
        have Hrl := Lib.hid (refTo_len (k + 1))
        have c0 : (⟨#[]⟩ : ByteArray) = bz [] := rfl
        have c2 : (⟨#[36, 123, 49, 125]⟩ : ByteArray) = bz [36, 123, 49, 125] := rfl
        have e2 : ((bz [36, 123, 49, 125]).toList == (bz [36, 123, 49, 125]).toList) = true := by rw [bz_beq]; rfl
        have HX := Lib.hid (show expP (greatL k []) [] (refTo (k + 1)) = (.ok (rep [] k), doneTo [] (k + 1)) from great_top_ok k [] (by decide) (by omega) (by rw [List.length_nil, Nat.mul_zero]; omega))
        have Hw := Lib.hid (show wrap64 ((doneTo [] (k + 1)).length : Nat) = ((k + 1 : Nat) : Int) by rw [doneTo_length]; exact wrap_len (by omega))
        have Hr0 : rep [] k = [] := List.eq_nil_of_length_eq_zero (by rw [rep_length, List.length_nil, Nat.mul_zero])
        rw [Hr0] at HX
        clear Hr0 hk hkle
        generalize refTo (k + 1) = E at x2 Hrl HX
        go_wp2_with (first
          | (go_at_call 12; with_reducible refine HN.out.mono ?_; rintro e w1 ⟨T, R, Dn, tv, rfl, h1, h2⟩; (have T1 := Lib.hid h1; have B1 := Lib.hid (HB.out.trans (h2.mono HB.out.size)); have M1 := Lib.hid (HMr.out.below h2 HMr.out.lt); clear h1 h2))
          | (go_at_call 20; with_reducible refine (H1.out _).mono ?_; rintro e w2 ⟨rfl, h1⟩; (have T2 := Lib.hid (T1.out.new h1); have B2 := Lib.hid (B1.out.trans (h1.mono B1.out.size)); have M2 := Lib.hid (M1.out.below h1 M1.out.lt); clear h1))
          | (go_at_call 13; with_reducible refine (Expand_any (m := m) HMr.out.lt HL.out E w2 M2.out T2.out Hrl.out).mono ?_; rw [HX.out]; rintro e w3 ⟨rfl, h1, h2⟩; dsimp only [okOf, errOf, nmOf]; (have T3 := Lib.hid h1; have B3 := Lib.hid (B2.out.trans (h2.below (B := W.heap.size) (fun k hk => Nat.le_trans HB.out.size (chT_lo T2.out k hk)) B2.out.size)); have M3 := Lib.hid (HM.out.below B3.out hpos); clear h1 h2))
          | (go_at_call 13; with_reducible refine (Expand_nil (m := m) [36, 123, 49, 125] [36, 123, 49, 125] [] w3 M3.out (by decide) none_exp).mono ?_; rintro e w4 ⟨rfl, h2⟩; (have T4 := Lib.hid (T3.out.new h2); have B4 := Lib.hid (B3.out.trans (h2.mono B3.out.size)); clear h2))
          | (fail))
        refine (Known_nil w4).mono ?_
        rintro e w5 ⟨rfl, hw5⟩; subst hw5
        clear x1 x2 H1 e2 c2
        have hz : (bz []).size = 0 := rfl
        have hsh : ∀ w, (Op.shift .shl .i64 0 .i64 (k : Int)).run Try.prog w = .ok (.int .i64 0) w := fun w => (congrArg (fun c => Sem.run Try.prog c w) (shift_shl_i64 (x := 0) (yk := .i64) (y := (k : Int)) (by omega) (by omega))).trans (by rw [Int.zero_mul]; rfl)
        go_wp2_with (first
          | (go_at_call 16; with_reducible refine (Known_any w5 T4.out).mono ?_; rw [Hw.out]; rintro e w6 ⟨rfl, hw6⟩; subst hw6)
          | (go_at_call 17; with_reducible refine (lives_any (m := m) w6 (HM.out.below B4.out hpos)).mono ?_; rintro e w7 ⟨rfl, h1⟩; (have B7 := Lib.hid (B4.out.trans (h1.mono B4.out.size)); clear h1)))
        go_ret
        exact ⟨rfl, B7.out⟩
  | false =>
    by_cases h1 : b = 36
    · have e36 : (b == 36) = true := beq_iff_eq.2 h1
      clear h1
      go_enter Try.func7, Try.ntmps7
      go_wp2
      rw [HNe.out]
      obtain ⟨K, hK⟩ : ∃ K : Int, K = min n 30 := ⟨_, rfl⟩
      rw [← hK]
      clear hK
      obtain ⟨Z, hZ⟩ : ∃ Z : Nat, Z = W.heap.size + 1 := ⟨_, rfl⟩
      have HZ := Lib.hid hZ
      have HO0 := Lib.hid (lit1_own (W.alloc (.cells #[.int .u8 b] 5)) (digs 1) [])
      rw [World.size_alloc] at HO0
      have HBs := Lib.hid (HB0.out.alloc (show W.heap.size ≤ (W.alloc (.cells #[.int .u8 b] 5)).heap.size by simp) (.cells #[sv (digs 1), sv []] 42))
      rw [← hZ] at HO0 ⊢
      clear hZ hcv c0 c1
      go_loopw [42, 8] (fun kv lv wr => ∃ k : Nat, k ≤ N ∧ kv = .int .i64 k ∧ Hid (POwn wr Z lv (greatL k [])) ∧ Hid (Below W.heap.size W wr) ∧ Hid (Z ≤ wr.heap.size)) (fun kv _ _ => N - (intOf kv).toNat)
      case atStart => exact ⟨0, Nat.zero_le _, rfl, HO0, HBs, Lib.hid (by have := HZ.out; simp; omega)⟩
      case round =>
        obtain ⟨lv, hlv⟩ : ∃ lv, lv = u8 := ⟨_, rfl⟩
        rw [← hlv] at hrel ⊢
        clear hlv
        obtain ⟨k, hkle, rfl, HR, HB, Hsz⟩ := hrel
        rcases Nat.lt_or_ge k N with hk | hk
        · have HS := Lib.hid (greatL_snoc [] k)
          have Hlen := Lib.hid (show (greatL k []).length < 1000000000000 by simp [greatL]; omega)
          generalize greatL k [] = U at HR HS Hlen
          have H1 := Lib.hid (fun w => Number_int ((k : Int) + 1) (k + 1) w (by omega) (by omega))
          have H2 := Lib.hid (fun w => Number_int ((k : Int) + 2) (k + 2) w (by omega) (by omega))
          have x1 := fun w => concat1 (digs (k + 1)) (digs_len _) w
          have x2 := fun w => concatE (k + 1) w
          have x3 := fun w => concatD (refTo (k + 1)) (refTo_len _) w
          obtain ⟨F, hF⟩ : ∃ F, F = refTo (k + 1) ++ refTo (k + 1) := ⟨_, rfl⟩
          rw [← hF] at x3 HS
          generalize refTo (k + 1) = E at x2 x3
          clear hF
          go_wp2_with (first
            | (go_at_call 20; with_reducible refine (H1.out _).mono ?_; rintro e w1 ⟨rfl, h1⟩; (have HB1 := Lib.hid h1; clear h1))
            | (go_at_call 20; with_reducible refine (H2.out _).mono ?_; rintro e w2 ⟨rfl, h1⟩; (have HB2 := Lib.hid (HB1.out.trans (h1.mono HB1.out.size)); clear h1))
            | (at_builtin; refine wpList_pushP rfl _ _ rfl (v := lv) rfl ((HR.out.new HB2.out).alloc _) w2.heap.size (digs (k + 2), F) rfl (two_new _ _ _ _).1 (two_new _ _ _ _).2 Hlen.out (by have := HB2.out.size; have := Hsz.out; simp; omega) ?_; intro v5 w5 hown5 hg5 hat5))
          have hs1 := Hsz.out
          have hs2 := HB2.out.size
          have hs3 := HB.out.size
          have HW5 := Lib.hid (((HB.out.trans (HB2.out.mono hs3)).alloc (show W.heap.size ≤ w2.heap.size by omega) _).grown hg5 (by simp; omega) (fun g hg => by have := (HR.out.lt g hg).1; have := HZ.out; omega))
          have HO5 := Lib.hid (show POwn w5 Z v5 (greatL (k + 1) []) by rw [HS.out]; exact hown5)
          have Hs5 := Lib.hid (show Z ≤ w5.heap.size by have := hg5.size; simp at this; omega)
          clear hown5 hg5 hat5
          go_roundw
          case rel => exact ⟨k + 1, by omega, by go_num, HO5, HW5, Hs5⟩
          case measure => simp [intOf]; omega
        · obtain rfl : k = N := by omega
          have HN := Lib.hid (New_any lv (greatL k []) wr (props_of_own HR.out fun g hg => (HR.out.lt g hg).2) (by simp [greatL]; omega))
          have HL := Lib.hid (greatL_small k [] (by decide))
          have HMr := Lib.hid (HM.out.below HB.out hpos)
          have H1 := Lib.hid (fun w => Number_int ((k : Int) + 1) (k + 1) w (by omega) (by omega))
          have x1 := fun w => concat1 (digs (k + 1)) (digs_len _) w
          have x2 := fun w => concatE (k + 1) w
          have Hrl := Lib.hid (refTo_len (k + 1))
          have c0 : (⟨#[]⟩ : ByteArray) = bz [] := rfl
          have c2 : (⟨#[36, 123, 49, 125]⟩ : ByteArray) = bz [36, 123, 49, 125] := rfl
          have e2 : ((bz [36, 123, 49, 125]).toList == (bz [36, 123, 49, 125]).toList) = true := by rw [bz_beq]; rfl
          have HX := Lib.hid (show expP (greatL k []) [] (refTo (k + 1)) = (.ok (rep [] k), doneTo [] (k + 1)) from great_top_ok k [] (by decide) (by omega) (by rw [List.length_nil, Nat.mul_zero]; omega))
          have Hw := Lib.hid (show wrap64 ((doneTo [] (k + 1)).length : Nat) = ((k + 1 : Nat) : Int) by rw [doneTo_length]; exact wrap_len (by omega))
          have Hr0 : rep [] k = [] := List.eq_nil_of_length_eq_zero (by rw [rep_length, List.length_nil, Nat.mul_zero])
          rw [Hr0] at HX
          clear Hr0 hk hkle
          generalize refTo (k + 1) = E at x2 Hrl HX
          go_wp2_with (first
            | (go_at_call 12; with_reducible refine HN.out.mono ?_; rintro e w1 ⟨T, R, Dn, tv, rfl, h1, h2⟩; (have T1 := Lib.hid h1; have B1 := Lib.hid (HB.out.trans (h2.mono HB.out.size)); have M1 := Lib.hid (HMr.out.below h2 HMr.out.lt); clear h1 h2))
            | (go_at_call 20; with_reducible refine (H1.out _).mono ?_; rintro e w2 ⟨rfl, h1⟩; (have T2 := Lib.hid (T1.out.new h1); have B2 := Lib.hid (B1.out.trans (h1.mono B1.out.size)); have M2 := Lib.hid (M1.out.below h1 M1.out.lt); clear h1))
            | (go_at_call 13; with_reducible refine (Expand_any (m := m) HMr.out.lt HL.out E w2 M2.out T2.out Hrl.out).mono ?_; rw [HX.out]; rintro e w3 ⟨rfl, h1, h2⟩; dsimp only [okOf, errOf, nmOf]; (have T3 := Lib.hid h1; have B3 := Lib.hid (B2.out.trans (h2.below (B := W.heap.size) (fun k hk => Nat.le_trans HB.out.size (chT_lo T2.out k hk)) B2.out.size)); have M3 := Lib.hid (HM.out.below B3.out hpos); clear h1 h2))
            | (go_at_call 13; with_reducible refine (Expand_nil (m := m) [36, 123, 49, 125] [36, 123, 49, 125] [] w3 M3.out (by decide) none_exp).mono ?_; rintro e w4 ⟨rfl, h2⟩; (have T4 := Lib.hid (T3.out.new h2); have B4 := Lib.hid (B3.out.trans (h2.mono B3.out.size)); clear h2))
            | (fail))
          refine (Known_nil w4).mono ?_
          rintro e w5 ⟨rfl, hw5⟩; subst hw5
          clear x1 x2 H1 e2 c2
          have hz : (bz []).size = 0 := rfl
          have hsh : ∀ w, (Op.shift .shl .i64 0 .i64 (k : Int)).run Try.prog w = .ok (.int .i64 0) w := fun w => (congrArg (fun c => Sem.run Try.prog c w) (shift_shl_i64 (x := 0) (yk := .i64) (y := (k : Int)) (by omega) (by omega))).trans (by rw [Int.zero_mul]; rfl)
          go_wp2_with (first
            | (go_at_call 16; with_reducible refine (Known_any w5 T4.out).mono ?_; rw [Hw.out]; rintro e w6 ⟨rfl, hw6⟩; subst hw6)
            | (go_at_call 17; with_reducible refine (lives_any (m := m) w6 (HM.out.below B4.out hpos)).mono ?_; rintro e w7 ⟨rfl, h1⟩; (have B7 := Lib.hid (B4.out.trans (h1.mono B4.out.size)); clear h1)))
          go_ret
          exact ⟨rfl, B7.out⟩
    by_cases h2 : b = 123
    · have e36 : (b == 36) = false := beq_eq_false_iff_ne.2 h1
      have e123 : (b == 123) = true := beq_iff_eq.2 h2
      clear h1 h2
      go_enter Try.func7, Try.ntmps7
      go_wp2
      rw [HNe.out]
      obtain ⟨K, hK⟩ : ∃ K : Int, K = min n 30 := ⟨_, rfl⟩
      rw [← hK]
      clear hK
      obtain ⟨Z, hZ⟩ : ∃ Z : Nat, Z = W.heap.size + 1 := ⟨_, rfl⟩
      have HZ := Lib.hid hZ
      have HO0 := Lib.hid (lit1_own (W.alloc (.cells #[.int .u8 b] 5)) (digs 1) [])
      rw [World.size_alloc] at HO0
      have HBs := Lib.hid (HB0.out.alloc (show W.heap.size ≤ (W.alloc (.cells #[.int .u8 b] 5)).heap.size by simp) (.cells #[sv (digs 1), sv []] 42))
      rw [← hZ] at HO0 ⊢
      clear hZ hcv c0 c1
      go_loopw [42, 8] (fun kv lv wr => ∃ k : Nat, k ≤ N ∧ kv = .int .i64 k ∧ Hid (POwn wr Z lv (greatL k [])) ∧ Hid (Below W.heap.size W wr) ∧ Hid (Z ≤ wr.heap.size)) (fun kv _ _ => N - (intOf kv).toNat)
      case atStart => exact ⟨0, Nat.zero_le _, rfl, HO0, HBs, Lib.hid (by have := HZ.out; simp; omega)⟩
      case round =>
        obtain ⟨lv, hlv⟩ : ∃ lv, lv = u8 := ⟨_, rfl⟩
        rw [← hlv] at hrel ⊢
        clear hlv
        obtain ⟨k, hkle, rfl, HR, HB, Hsz⟩ := hrel
        rcases Nat.lt_or_ge k N with hk | hk
        · have HS := Lib.hid (greatL_snoc [] k)
          have Hlen := Lib.hid (show (greatL k []).length < 1000000000000 by simp [greatL]; omega)
          generalize greatL k [] = U at HR HS Hlen
          have H1 := Lib.hid (fun w => Number_int ((k : Int) + 1) (k + 1) w (by omega) (by omega))
          have H2 := Lib.hid (fun w => Number_int ((k : Int) + 2) (k + 2) w (by omega) (by omega))
          have x1 := fun w => concat1 (digs (k + 1)) (digs_len _) w
          have x2 := fun w => concatE (k + 1) w
          have x3 := fun w => concatD (refTo (k + 1)) (refTo_len _) w
          obtain ⟨F, hF⟩ : ∃ F, F = refTo (k + 1) ++ refTo (k + 1) := ⟨_, rfl⟩
          rw [← hF] at x3 HS
          generalize refTo (k + 1) = E at x2 x3
          clear hF
          go_wp2_with (first
            | (go_at_call 20; with_reducible refine (H1.out _).mono ?_; rintro e w1 ⟨rfl, h1⟩; (have HB1 := Lib.hid h1; clear h1))
            | (go_at_call 20; with_reducible refine (H2.out _).mono ?_; rintro e w2 ⟨rfl, h1⟩; (have HB2 := Lib.hid (HB1.out.trans (h1.mono HB1.out.size)); clear h1))
            | (at_builtin; refine wpList_pushP rfl _ _ rfl (v := lv) rfl ((HR.out.new HB2.out).alloc _) w2.heap.size (digs (k + 2), F) rfl (two_new _ _ _ _).1 (two_new _ _ _ _).2 Hlen.out (by have := HB2.out.size; have := Hsz.out; simp; omega) ?_; intro v5 w5 hown5 hg5 hat5))
          have hs1 := Hsz.out
          have hs2 := HB2.out.size
          have hs3 := HB.out.size
          have HW5 := Lib.hid (((HB.out.trans (HB2.out.mono hs3)).alloc (show W.heap.size ≤ w2.heap.size by omega) _).grown hg5 (by simp; omega) (fun g hg => by have := (HR.out.lt g hg).1; have := HZ.out; omega))
          have HO5 := Lib.hid (show POwn w5 Z v5 (greatL (k + 1) []) by rw [HS.out]; exact hown5)
          have Hs5 := Lib.hid (show Z ≤ w5.heap.size by have := hg5.size; simp at this; omega)
          clear hown5 hg5 hat5
          go_roundw
          case rel => exact ⟨k + 1, by omega, by go_num, HO5, HW5, Hs5⟩
          case measure => simp [intOf]; omega
        · obtain rfl : k = N := by omega
          have HN := Lib.hid (New_any lv (greatL k []) wr (props_of_own HR.out fun g hg => (HR.out.lt g hg).2) (by simp [greatL]; omega))
          have HL := Lib.hid (greatL_small k [] (by decide))
          have HMr := Lib.hid (HM.out.below HB.out hpos)
          have H1 := Lib.hid (fun w => Number_int ((k : Int) + 1) (k + 1) w (by omega) (by omega))
          have x1 := fun w => concat1 (digs (k + 1)) (digs_len _) w
          have x2 := fun w => concatE (k + 1) w
          have Hrl := Lib.hid (refTo_len (k + 1))
          have c0 : (⟨#[]⟩ : ByteArray) = bz [] := rfl
          have c2 : (⟨#[36, 123, 49, 125]⟩ : ByteArray) = bz [36, 123, 49, 125] := rfl
          have e2 : ((bz [36, 123, 49, 125]).toList == (bz [36, 123, 49, 125]).toList) = true := by rw [bz_beq]; rfl
          have HX := Lib.hid (show expP (greatL k []) [] (refTo (k + 1)) = (.ok (rep [] k), doneTo [] (k + 1)) from great_top_ok k [] (by decide) (by omega) (by rw [List.length_nil, Nat.mul_zero]; omega))
          have Hw := Lib.hid (show wrap64 ((doneTo [] (k + 1)).length : Nat) = ((k + 1 : Nat) : Int) by rw [doneTo_length]; exact wrap_len (by omega))
          have Hr0 : rep [] k = [] := List.eq_nil_of_length_eq_zero (by rw [rep_length, List.length_nil, Nat.mul_zero])
          rw [Hr0] at HX
          clear Hr0 hk hkle
          generalize refTo (k + 1) = E at x2 Hrl HX
          go_wp2_with (first
            | (go_at_call 12; with_reducible refine HN.out.mono ?_; rintro e w1 ⟨T, R, Dn, tv, rfl, h1, h2⟩; (have T1 := Lib.hid h1; have B1 := Lib.hid (HB.out.trans (h2.mono HB.out.size)); have M1 := Lib.hid (HMr.out.below h2 HMr.out.lt); clear h1 h2))
            | (go_at_call 20; with_reducible refine (H1.out _).mono ?_; rintro e w2 ⟨rfl, h1⟩; (have T2 := Lib.hid (T1.out.new h1); have B2 := Lib.hid (B1.out.trans (h1.mono B1.out.size)); have M2 := Lib.hid (M1.out.below h1 M1.out.lt); clear h1))
            | (go_at_call 13; with_reducible refine (Expand_any (m := m) HMr.out.lt HL.out E w2 M2.out T2.out Hrl.out).mono ?_; rw [HX.out]; rintro e w3 ⟨rfl, h1, h2⟩; dsimp only [okOf, errOf, nmOf]; (have T3 := Lib.hid h1; have B3 := Lib.hid (B2.out.trans (h2.below (B := W.heap.size) (fun k hk => Nat.le_trans HB.out.size (chT_lo T2.out k hk)) B2.out.size)); have M3 := Lib.hid (HM.out.below B3.out hpos); clear h1 h2))
            | (go_at_call 13; with_reducible refine (Expand_nil (m := m) [36, 123, 49, 125] [36, 123, 49, 125] [] w3 M3.out (by decide) none_exp).mono ?_; rintro e w4 ⟨rfl, h2⟩; (have T4 := Lib.hid (T3.out.new h2); have B4 := Lib.hid (B3.out.trans (h2.mono B3.out.size)); clear h2))
            | (fail))
          refine (Known_nil w4).mono ?_
          rintro e w5 ⟨rfl, hw5⟩; subst hw5
          clear x1 x2 H1 e2 c2
          have hz : (bz []).size = 0 := rfl
          have hsh : ∀ w, (Op.shift .shl .i64 0 .i64 (k : Int)).run Try.prog w = .ok (.int .i64 0) w := fun w => (congrArg (fun c => Sem.run Try.prog c w) (shift_shl_i64 (x := 0) (yk := .i64) (y := (k : Int)) (by omega) (by omega))).trans (by rw [Int.zero_mul]; rfl)
          go_wp2_with (first
            | (go_at_call 16; with_reducible refine (Known_any w5 T4.out).mono ?_; rw [Hw.out]; rintro e w6 ⟨rfl, hw6⟩; subst hw6)
            | (go_at_call 17; with_reducible refine (lives_any (m := m) w6 (HM.out.below B4.out hpos)).mono ?_; rintro e w7 ⟨rfl, h1⟩; (have B7 := Lib.hid (B4.out.trans (h1.mono B4.out.size)); clear h1)))
          go_ret
          exact ⟨rfl, B7.out⟩
    by_cases h3 : b = 125
    · have e36 : (b == 36) = false := beq_eq_false_iff_ne.2 h1
      have e123 : (b == 123) = false := beq_eq_false_iff_ne.2 h2
      have e125 : (b == 125) = true := beq_iff_eq.2 h3
      clear h1 h2 h3
      go_enter Try.func7, Try.ntmps7
      go_wp2
      rw [HNe.out]
      obtain ⟨K, hK⟩ : ∃ K : Int, K = min n 30 := ⟨_, rfl⟩
      rw [← hK]
      clear hK
      obtain ⟨Z, hZ⟩ : ∃ Z : Nat, Z = W.heap.size + 1 := ⟨_, rfl⟩
      have HZ := Lib.hid hZ
      have HO0 := Lib.hid (lit1_own (W.alloc (.cells #[.int .u8 b] 5)) (digs 1) [])
      rw [World.size_alloc] at HO0
      have HBs := Lib.hid (HB0.out.alloc (show W.heap.size ≤ (W.alloc (.cells #[.int .u8 b] 5)).heap.size by simp) (.cells #[sv (digs 1), sv []] 42))
      rw [← hZ] at HO0 ⊢
      clear hZ hcv c0 c1
      go_loopw [42, 8] (fun kv lv wr => ∃ k : Nat, k ≤ N ∧ kv = .int .i64 k ∧ Hid (POwn wr Z lv (greatL k [])) ∧ Hid (Below W.heap.size W wr) ∧ Hid (Z ≤ wr.heap.size)) (fun kv _ _ => N - (intOf kv).toNat)
      case atStart => exact ⟨0, Nat.zero_le _, rfl, HO0, HBs, Lib.hid (by have := HZ.out; simp; omega)⟩
      case round =>
        obtain ⟨lv, hlv⟩ : ∃ lv, lv = u8 := ⟨_, rfl⟩
        rw [← hlv] at hrel ⊢
        clear hlv
        obtain ⟨k, hkle, rfl, HR, HB, Hsz⟩ := hrel
        rcases Nat.lt_or_ge k N with hk | hk
        · have HS := Lib.hid (greatL_snoc [] k)
          have Hlen := Lib.hid (show (greatL k []).length < 1000000000000 by simp [greatL]; omega)
          generalize greatL k [] = U at HR HS Hlen
          have H1 := Lib.hid (fun w => Number_int ((k : Int) + 1) (k + 1) w (by omega) (by omega))
          have H2 := Lib.hid (fun w => Number_int ((k : Int) + 2) (k + 2) w (by omega) (by omega))
          have x1 := fun w => concat1 (digs (k + 1)) (digs_len _) w
          have x2 := fun w => concatE (k + 1) w
          have x3 := fun w => concatD (refTo (k + 1)) (refTo_len _) w
          obtain ⟨F, hF⟩ : ∃ F, F = refTo (k + 1) ++ refTo (k + 1) := ⟨_, rfl⟩
          rw [← hF] at x3 HS
          generalize refTo (k + 1) = E at x2 x3
          clear hF
          go_wp2_with (first
            | (go_at_call 20; with_reducible refine (H1.out _).mono ?_; rintro e w1 ⟨rfl, h1⟩; (have HB1 := Lib.hid h1; clear h1))
            | (go_at_call 20; with_reducible refine (H2.out _).mono ?_; rintro e w2 ⟨rfl, h1⟩; (have HB2 := Lib.hid (HB1.out.trans (h1.mono HB1.out.size)); clear h1))
            | (at_builtin; refine wpList_pushP rfl _ _ rfl (v := lv) rfl ((HR.out.new HB2.out).alloc _) w2.heap.size (digs (k + 2), F) rfl (two_new _ _ _ _).1 (two_new _ _ _ _).2 Hlen.out (by have := HB2.out.size; have := Hsz.out; simp; omega) ?_; intro v5 w5 hown5 hg5 hat5))
          have hs1 := Hsz.out
          have hs2 := HB2.out.size
          have hs3 := HB.out.size
          have HW5 := Lib.hid (((HB.out.trans (HB2.out.mono hs3)).alloc (show W.heap.size ≤ w2.heap.size by omega) _).grown hg5 (by simp; omega) (fun g hg => by have := (HR.out.lt g hg).1; have := HZ.out; omega))
          have HO5 := Lib.hid (show POwn w5 Z v5 (greatL (k + 1) []) by rw [HS.out]; exact hown5)
          have Hs5 := Lib.hid (show Z ≤ w5.heap.size by have := hg5.size; simp at this; omega)
          clear hown5 hg5 hat5
          go_roundw
          case rel => exact ⟨k + 1, by omega, by go_num, HO5, HW5, Hs5⟩
          case measure => simp [intOf]; omega
        · obtain rfl : k = N := by omega
          have HN := Lib.hid (New_any lv (greatL k []) wr (props_of_own HR.out fun g hg => (HR.out.lt g hg).2) (by simp [greatL]; omega))
          have HL := Lib.hid (greatL_small k [] (by decide))
          have HMr := Lib.hid (HM.out.below HB.out hpos)
          have H1 := Lib.hid (fun w => Number_int ((k : Int) + 1) (k + 1) w (by omega) (by omega))
          have x1 := fun w => concat1 (digs (k + 1)) (digs_len _) w
          have x2 := fun w => concatE (k + 1) w
          have Hrl := Lib.hid (refTo_len (k + 1))
          have c0 : (⟨#[]⟩ : ByteArray) = bz [] := rfl
          have c2 : (⟨#[36, 123, 49, 125]⟩ : ByteArray) = bz [36, 123, 49, 125] := rfl
          have e2 : ((bz [36, 123, 49, 125]).toList == (bz [36, 123, 49, 125]).toList) = true := by rw [bz_beq]; rfl
          have HX := Lib.hid (show expP (greatL k []) [] (refTo (k + 1)) = (.ok (rep [] k), doneTo [] (k + 1)) from great_top_ok k [] (by decide) (by omega) (by rw [List.length_nil, Nat.mul_zero]; omega))
          have Hw := Lib.hid (show wrap64 ((doneTo [] (k + 1)).length : Nat) = ((k + 1 : Nat) : Int) by rw [doneTo_length]; exact wrap_len (by omega))
          have Hr0 : rep [] k = [] := List.eq_nil_of_length_eq_zero (by rw [rep_length, List.length_nil, Nat.mul_zero])
          rw [Hr0] at HX
          clear Hr0 hk hkle
          generalize refTo (k + 1) = E at x2 Hrl HX
          go_wp2_with (first
            | (go_at_call 12; with_reducible refine HN.out.mono ?_; rintro e w1 ⟨T, R, Dn, tv, rfl, h1, h2⟩; (have T1 := Lib.hid h1; have B1 := Lib.hid (HB.out.trans (h2.mono HB.out.size)); have M1 := Lib.hid (HMr.out.below h2 HMr.out.lt); clear h1 h2))
            | (go_at_call 20; with_reducible refine (H1.out _).mono ?_; rintro e w2 ⟨rfl, h1⟩; (have T2 := Lib.hid (T1.out.new h1); have B2 := Lib.hid (B1.out.trans (h1.mono B1.out.size)); have M2 := Lib.hid (M1.out.below h1 M1.out.lt); clear h1))
            | (go_at_call 13; with_reducible refine (Expand_any (m := m) HMr.out.lt HL.out E w2 M2.out T2.out Hrl.out).mono ?_; rw [HX.out]; rintro e w3 ⟨rfl, h1, h2⟩; dsimp only [okOf, errOf, nmOf]; (have T3 := Lib.hid h1; have B3 := Lib.hid (B2.out.trans (h2.below (B := W.heap.size) (fun k hk => Nat.le_trans HB.out.size (chT_lo T2.out k hk)) B2.out.size)); have M3 := Lib.hid (HM.out.below B3.out hpos); clear h1 h2))
            | (go_at_call 13; with_reducible refine (Expand_nil (m := m) [36, 123, 49, 125] [36, 123, 49, 125] [] w3 M3.out (by decide) none_exp).mono ?_; rintro e w4 ⟨rfl, h2⟩; (have T4 := Lib.hid (T3.out.new h2); have B4 := Lib.hid (B3.out.trans (h2.mono B3.out.size)); clear h2))
            | (fail))
          refine (Known_nil w4).mono ?_
          rintro e w5 ⟨rfl, hw5⟩; subst hw5
          clear x1 x2 H1 e2 c2
          have hz : (bz []).size = 0 := rfl
          have hsh : ∀ w, (Op.shift .shl .i64 0 .i64 (k : Int)).run Try.prog w = .ok (.int .i64 0) w := fun w => (congrArg (fun c => Sem.run Try.prog c w) (shift_shl_i64 (x := 0) (yk := .i64) (y := (k : Int)) (by omega) (by omega))).trans (by rw [Int.zero_mul]; rfl)
          go_wp2_with (first
            | (go_at_call 16; with_reducible refine (Known_any w5 T4.out).mono ?_; rw [Hw.out]; rintro e w6 ⟨rfl, hw6⟩; subst hw6)
            | (go_at_call 17; with_reducible refine (lives_any (m := m) w6 (HM.out.below B4.out hpos)).mono ?_; rintro e w7 ⟨rfl, h1⟩; (have B7 := Lib.hid (B4.out.trans (h1.mono B4.out.size)); clear h1)))
          go_ret
          exact ⟨rfl, B7.out⟩
    have e36 : (b == 36) = false := beq_eq_false_iff_ne.2 h1
    have e123 : (b == 123) = false := beq_eq_false_iff_ne.2 h2
    have e125 : (b == 125) = false := beq_eq_false_iff_ne.2 h3
    clear h1 h2 h3
    go_enter Try.func7, Try.ntmps7
    go_wp2
    rw [HNe.out]
    obtain ⟨K, hK⟩ : ∃ K : Int, K = min n 30 := ⟨_, rfl⟩
    rw [← hK]
    clear hK
    obtain ⟨Z, hZ⟩ : ∃ Z : Nat, Z = W.heap.size + 1 := ⟨_, rfl⟩
    have HZ := Lib.hid hZ
    have HO0 := Lib.hid (lit1_own (W.alloc (.cells #[.int .u8 b] 5)) (digs 1) [c])
    rw [World.size_alloc] at HO0
    have HBs := Lib.hid (HB0.out.alloc (show W.heap.size ≤ (W.alloc (.cells #[.int .u8 b] 5)).heap.size by simp) (.cells #[sv (digs 1), sv [c]] 42))
    rw [← hZ] at HO0 ⊢
    clear hZ hcv c0 c1
    go_loopw [42, 8] (fun kv lv wr => ∃ k : Nat, k ≤ N ∧ kv = .int .i64 k ∧ Hid (POwn wr Z lv (greatL k [c])) ∧ Hid (Below W.heap.size W wr) ∧ Hid (Z ≤ wr.heap.size)) (fun kv _ _ => N - (intOf kv).toNat)
    case atStart => exact ⟨0, Nat.zero_le _, rfl, HO0, HBs, Lib.hid (by have := HZ.out; simp; omega)⟩
    case round =>
      obtain ⟨lv, hlv⟩ : ∃ lv, lv = u8 := ⟨_, rfl⟩
      rw [← hlv] at hrel ⊢
      clear hlv
      obtain ⟨k, hkle, rfl, HR, HB, Hsz⟩ := hrel
      rcases Nat.lt_or_ge k N with hk | hk
      · have HS := Lib.hid (greatL_snoc [c] k)
        have Hlen := Lib.hid (show (greatL k [c]).length < 1000000000000 by simp [greatL]; omega)
        generalize greatL k [c] = U at HR HS Hlen
        have H1 := Lib.hid (fun w => Number_int ((k : Int) + 1) (k + 1) w (by omega) (by omega))
        have H2 := Lib.hid (fun w => Number_int ((k : Int) + 2) (k + 2) w (by omega) (by omega))
        have x1 := fun w => concat1 (digs (k + 1)) (digs_len _) w
        have x2 := fun w => concatE (k + 1) w
        have x3 := fun w => concatD (refTo (k + 1)) (refTo_len _) w
        obtain ⟨F, hF⟩ : ∃ F, F = refTo (k + 1) ++ refTo (k + 1) := ⟨_, rfl⟩
        rw [← hF] at x3 HS
        generalize refTo (k + 1) = E at x2 x3
        clear hF
        go_wp2_with (first
          | (go_at_call 20; with_reducible refine (H1.out _).mono ?_; rintro e w1 ⟨rfl, h1⟩; (have HB1 := Lib.hid h1; clear h1))
          | (go_at_call 20; with_reducible refine (H2.out _).mono ?_; rintro e w2 ⟨rfl, h1⟩; (have HB2 := Lib.hid (HB1.out.trans (h1.mono HB1.out.size)); clear h1))
          | (at_builtin; refine wpList_pushP rfl _ _ rfl (v := lv) rfl ((HR.out.new HB2.out).alloc _) w2.heap.size (digs (k + 2), F) rfl (two_new _ _ _ _).1 (two_new _ _ _ _).2 Hlen.out (by have := HB2.out.size; have := Hsz.out; simp; omega) ?_; intro v5 w5 hown5 hg5 hat5))
        have hs1 := Hsz.out
        have hs2 := HB2.out.size
        have hs3 := HB.out.size
        have HW5 := Lib.hid (((HB.out.trans (HB2.out.mono hs3)).alloc (show W.heap.size ≤ w2.heap.size by omega) _).grown hg5 (by simp; omega) (fun g hg => by have := (HR.out.lt g hg).1; have := HZ.out; omega))
        have HO5 := Lib.hid (show POwn w5 Z v5 (greatL (k + 1) [c]) by rw [HS.out]; exact hown5)
        have Hs5 := Lib.hid (show Z ≤ w5.heap.size by have := hg5.size; simp at this; omega)
        clear hown5 hg5 hat5
        go_roundw
        case rel => exact ⟨k + 1, by omega, by go_num, HO5, HW5, Hs5⟩
        case measure => simp [intOf]; omega
      · obtain rfl : k = N := by omega
        have HN := Lib.hid (New_any lv (greatL k [c]) wr (props_of_own HR.out fun g hg => (HR.out.lt g hg).2) (by simp [greatL]; omega))
        have HL := Lib.hid (greatL_small k [c] (Nat.le_refl 1))
        have HMr := Lib.hid (HM.out.below HB.out hpos)
        have H1 := Lib.hid (fun w => Number_int ((k : Int) + 1) (k + 1) w (by omega) (by omega))
        have x1 := fun w => concat1 (digs (k + 1)) (digs_len _) w
        have x2 := fun w => concatE (k + 1) w
        have Hrl := Lib.hid (refTo_len (k + 1))
        have c0 : (⟨#[]⟩ : ByteArray) = bz [] := rfl
        have c2 : (⟨#[36, 123, 49, 125]⟩ : ByteArray) = bz [36, 123, 49, 125] := rfl
        have e2 : ((bz [36, 123, 49, 125]).toList == (bz [36, 123, 49, 125]).toList) = true := by rw [bz_beq]; rfl
        rcases Nat.lt_or_ge 12 k with hbig | hbig
        · skip
          have HX := Lib.hid (show expP (greatL k [c]) [] (refTo (k + 1)) = (.big (digs 14), doneTo [c] 13) from great_top_big k [c] rfl (by omega) hbig)
          have Hw := Lib.hid (show wrap64 ((doneTo [c] 13).length : Nat) = ((13 : Nat) : Int) by rw [doneTo_length]; exact wrap_len (by omega))
          clear hk hkle
          generalize refTo (k + 1) = E at x2 Hrl HX
          go_wp2_with (first
            | (go_at_call 12; with_reducible refine HN.out.mono ?_; rintro e w1 ⟨T, R, Dn, tv, rfl, h1, h2⟩; (have T1 := Lib.hid h1; have B1 := Lib.hid (HB.out.trans (h2.mono HB.out.size)); have M1 := Lib.hid (HMr.out.below h2 HMr.out.lt); clear h1 h2))
            | (go_at_call 20; with_reducible refine (H1.out _).mono ?_; rintro e w2 ⟨rfl, h1⟩; (have T2 := Lib.hid (T1.out.new h1); have B2 := Lib.hid (B1.out.trans (h1.mono B1.out.size)); have M2 := Lib.hid (M1.out.below h1 M1.out.lt); clear h1))
            | (go_at_call 13; with_reducible refine (Expand_any (m := m) HMr.out.lt HL.out E w2 M2.out T2.out Hrl.out).mono ?_; rw [HX.out]; rintro e w3 ⟨rfl, h1, h2⟩; dsimp only [okOf, errOf, nmOf]; (have T3 := Lib.hid h1; have B3 := Lib.hid (B2.out.trans (h2.below (B := W.heap.size) (fun k hk => Nat.le_trans HB.out.size (chT_lo T2.out k hk)) B2.out.size)); have M3 := Lib.hid (HM.out.below B3.out hpos); clear h1 h2))
            | (go_at_call 13; with_reducible refine (Expand_nil (m := m) [36, 123, 49, 125] [36, 123, 49, 125] [] w3 M3.out (by decide) none_exp).mono ?_; rintro e w4 ⟨rfl, h2⟩; (have T4 := Lib.hid (T3.out.new h2); have B4 := Lib.hid (B3.out.trans (h2.mono B3.out.size)); clear h2))
            | (fail))
          refine (Known_nil w4).mono ?_
          rintro e w5 ⟨rfl, hw5⟩; subst hw5
          clear x1 x2 H1 e2 c2
          have en : ((bz [c]).toList == (bz []).toList) = false := by rw [bz_beq]; rfl
          go_wp2_with (first
            | (go_at_call 16; with_reducible refine (Known_any w5 T4.out).mono ?_; rw [Hw.out]; rintro e w6 ⟨rfl, hw6⟩; subst hw6)
            | (go_at_call 17; with_reducible refine (lives_any (m := m) w6 (HM.out.below B4.out hpos)).mono ?_; rintro e w7 ⟨rfl, h1⟩; (have B7 := Lib.hid (B4.out.trans (h1.mono B4.out.size)); clear h1)))
          go_ret
          exact ⟨rfl, B7.out⟩
        · have hp12 : 2 ^ k ≤ 4096 := Nat.le_trans (Nat.pow_le_pow_right (by decide) hbig) (by decide)
          have HX := Lib.hid (show expP (greatL k [c]) [] (refTo (k + 1)) = (.ok (rep [c] k), doneTo [c] (k + 1)) from great_top_ok k [c] (Nat.le_refl 1) (by omega) (by rw [List.length_singleton, Nat.mul_one]; exact hp12))
          have Hw := Lib.hid (show wrap64 ((doneTo [c] (k + 1)).length : Nat) = ((k + 1 : Nat) : Int) by rw [doneTo_length]; exact wrap_len (by omega))
          have hrz := rep_length [c] k
          rw [List.length_singleton, Nat.mul_one] at hrz
          obtain ⟨P, hP⟩ : ∃ P : Nat, P = 2 ^ k := ⟨_, rfl⟩
          rw [← hP] at hrz hp12
          generalize rep [c] k = Rk at HX hrz
          have HP := Lib.hid hP
          have hrz2 : (bz Rk).size = P := hrz
          clear hk hkle hP hrz
          generalize refTo (k + 1) = E at x2 Hrl HX
          go_wp2_with (first
            | (go_at_call 12; with_reducible refine HN.out.mono ?_; rintro e w1 ⟨T, R, Dn, tv, rfl, h1, h2⟩; (have T1 := Lib.hid h1; have B1 := Lib.hid (HB.out.trans (h2.mono HB.out.size)); have M1 := Lib.hid (HMr.out.below h2 HMr.out.lt); clear h1 h2))
            | (go_at_call 20; with_reducible refine (H1.out _).mono ?_; rintro e w2 ⟨rfl, h1⟩; (have T2 := Lib.hid (T1.out.new h1); have B2 := Lib.hid (B1.out.trans (h1.mono B1.out.size)); have M2 := Lib.hid (M1.out.below h1 M1.out.lt); clear h1))
            | (go_at_call 13; with_reducible refine (Expand_any (m := m) HMr.out.lt HL.out E w2 M2.out T2.out Hrl.out).mono ?_; rw [HX.out]; rintro e w3 ⟨rfl, h1, h2⟩; dsimp only [okOf, errOf, nmOf]; (have T3 := Lib.hid h1; have B3 := Lib.hid (B2.out.trans (h2.below (B := W.heap.size) (fun k hk => Nat.le_trans HB.out.size (chT_lo T2.out k hk)) B2.out.size)); have M3 := Lib.hid (HM.out.below B3.out hpos); clear h1 h2))
            | (go_at_call 13; with_reducible refine (Expand_nil (m := m) [36, 123, 49, 125] [36, 123, 49, 125] [] w3 M3.out (by decide) none_exp).mono ?_; rintro e w4 ⟨rfl, h2⟩; (have T4 := Lib.hid (T3.out.new h2); have B4 := Lib.hid (B3.out.trans (h2.mono B3.out.size)); clear h2))
            | (fail))
          refine (Known_nil w4).mono ?_
          rintro e w5 ⟨rfl, hw5⟩; subst hw5
          clear x1 x2 H1 e2 c2
          have hp64 : wrap64 ((2 : Int) ^ k) = (P : Nat) := by rw [show ((2 : Int) ^ k) = ((P : Nat) : Int) by rw [HP.out]; simp]; unfold wrap64; omega
          have hk12 : k ≤ 12 := hbig
          have hk13 : decide ((12 : Int) < (k : Nat)) = false := by simp; omega
          have hz : (bz [c]).size = 1 := rfl
          have en : ((bz [c]).toList == (bz []).toList) = false := by rw [bz_beq]; rfl
          have hsh : ∀ w, (Op.shift .shl .i64 1 .i64 (k : Int)).run Try.prog w = .ok (.int .i64 (P : Nat)) w := fun w => (congrArg (fun c => Sem.run Try.prog c w) (shift_shl_i64 (x := 1) (yk := .i64) (y := (k : Int)) (by omega) (by omega))).trans (by rw [Int.one_mul, HP.out]; show Result.ok (Value.int .i64 (IntKind.i64.wrap ((2 : Int) ^ k))) w = _; rw [wrap_nat (n := 2 ^ k) (by simp) (by have := HP.out; omega)])
          go_wp2_with (first
            | (go_at_call 16; with_reducible refine (Known_any w5 T4.out).mono ?_; rw [Hw.out]; rintro e w6 ⟨rfl, hw6⟩; subst hw6)
            | (go_at_call 17; with_reducible refine (lives_any (m := m) w6 (HM.out.below B4.out hpos)).mono ?_; rintro e w7 ⟨rfl, h1⟩; (have B7 := Lib.hid (B4.out.trans (h1.mono B4.out.size)); clear h1)))
          go_ret
          exact ⟨rfl, B7.out⟩
end Go.Proofs.Ytpgdioopkcfjdaa
