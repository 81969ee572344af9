/- PropRound: the law, walked. -/
import Derived.Test.YtpgdioopkcfjdaaPrK2
import Derived.Test.YtpgdioopkcfjdaaPrW9
import Derived.Test.YtpgdioopkcfjdaaArgC2
namespace Go.Proofs.Ytpgdioopkcfjdaa
open Go.RowKit

theorem Number_int (x : Int) (j : Nat) (w : World) (hx : x = (j : Nat)) (hj : j < 100) : Calls Try.prog 20 #[.int .i64 x] w fun e w' => e = .returned (sv (digs j)) ∧ Below w.heap.size w w' := by
  subst hx; exact Number_any j w hj
theorem digs_len (k : Nat) : (digs k).length ≤ 1000000 := by unfold digs; split <;> simp
theorem round_bz : (⟨#[60, 36, 123, 49, 125, 62]⟩ : ByteArray) = bz roundT := by
  show bz [60, 36, 123, 49, 125, 62] = bz roundT
  rw [show roundT = [60, 36, 123, 49, 125, 62] by decide]
theorem roundL_small (n : Nat) (round : Bool) : ∀ p ∈ roundL n round, p.2.length ≤ 1000000 := by
  intro p hp
  unfold roundL at hp
  obtain ⟨i, _, rfl⟩ := List.mem_map.1 hp
  show (roundV n round i).length ≤ 1000000
  have hd : ∀ k, (digs k).length ≤ 2 := fun k => by unfold digs; split <;> simp
  unfold roundV refTo
  have h1 := hd 1
  have h2 := hd (i + 2)
  split
  · split
    · simp; omega
    · simp
  · simp; omega
set_option maxHeartbeats 8000000 in
theorem walk_PropRound (m : Int) (W : World) (hm : MaxAt m W) (v0 v1 : Value) (a0 : Arg Try.prog W 3 v0) (a1 : Arg Try.prog W 4 v1) : Calls Try.prog 6 #[v0, v1] W fun e W' => e = .returned (.bool true) ∧ Below W.heap.size W W' := by
  obtain ⟨n, rfl, -, -⟩ := arg_int a0
  obtain ⟨round, rfl⟩ := arg_bool a1
  clear a0 a1
  have HM := Lib.hid hm
  have hpos := hm.lt
  clear hm
  go_enter Try.func6, Try.ntmps6
  go_wp2
  obtain ⟨N, hN, hN0, hN1⟩ : ∃ N : Nat, max 1 (min n 60) = (N : Nat) ∧ 0 < N ∧ N ≤ 60 := ⟨(max 1 (min n 60)).toNat, by omega, by omega, by omega⟩
  obtain ⟨K, hK⟩ : ∃ K : Int, K = min n 60 := ⟨_, rfl⟩
  rw [hN, ← hK]
  clear hN hK
  obtain ⟨B, hB⟩ : ∃ B, B = W.heap.size := ⟨_, rfl⟩
  have HBe := Lib.hid hB
  rw [← hB] at hpos
  clear hB
  have Hr := Lib.hid (round_eq N round hN0 hN1)
  go_loopw [15, 5] (fun kv lv wr => ∃ k : Nat, k ≤ N ∧ kv = .int .i64 k ∧ Hid (POwn wr B lv ((List.range k).map fun i => (digs (i + 1), roundV N round i))) ∧ Hid (Below B W wr)) (fun kv _ _ => N - (intOf kv).toNat)
  case atStart => exact ⟨0, Nat.zero_le _, rfl, Lib.hid (POwn.nil _ _), Lib.hid (Below.refl _ _)⟩
  case round =>
    obtain ⟨lv, hlv⟩ : ∃ lv, lv = u5 := ⟨_, rfl⟩
    rw [← hlv] at hrel ⊢
    clear hlv
    obtain ⟨k, hkle, rfl, HR, HB⟩ := hrel
    rcases Nat.lt_or_ge k N with hk | hk
    · have hsz : B ≤ wr.heap.size := by rw [HBe.out]; exact HB.out.size
      have Hsz := Lib.hid hsz
      have HS := Lib.hid (roundL_snoc N round k)
      have Hlen := Lib.hid (show ((List.range k).map fun i => (digs (i + 1), roundV N round i)).length < 1000000000000 by simp; omega)
      generalize ((List.range k).map fun i => (digs (i + 1), roundV N round i)) = U at HR HS Hlen
      have H1 := Lib.hid (fun w => Number_int ((k : Int) + 2) (k + 2) w (by omega) (by omega))
      have H2 := Lib.hid (fun w => Number_int ((k : Int) + 1) (k + 1) w (by omega) (by omega))
      have x1 := fun w => concat1 (digs (k + 2)) (digs_len _) w
      have x2 := fun w => concat2 (digs (k + 2)) (digs_len _) w
      clear hsz
      rcases Nat.lt_or_ge (k + 1) N with hk1 | hk1
      · have Hv := Lib.hid (show roundV N round k = 36 :: 123 :: (digs (k + 2) ++ [125]) by unfold roundV; rw [if_neg (by omega)]; rfl)
        have hb0 : (((k : Nat) : Int) == ((N : Nat) : Int) - 1) = false := beq_eq_false_iff_ne.2 (by omega)
        go_wp2_with (first
          | (go_at_call 20; with_reducible refine (H1.out _).mono ?_; rintro e w1 ⟨rfl, h1⟩; (have HB1 := Lib.hid h1; clear h1))
          | (go_at_call 20; with_reducible refine (H2.out _).mono ?_; rintro e w2 ⟨rfl, h1⟩; (have HB2 := Lib.hid (HB1.out.trans (h1.mono HB1.out.size)); clear h1))
          | (at_builtin; refine wpList_pushP rfl _ _ rfl (v := lv) rfl ((HR.out.new HB2.out).alloc _) w2.heap.size (digs (k + 1), 36 :: 123 :: (digs (k + 2) ++ [125])) rfl (two_new _ _ _ _).1 (two_new _ _ _ _).2 Hlen.out (by have := HB2.out.size; have := Hsz.out; simp; omega) ?_; intro v5 w5 hown5 hg5 hat5))
        have hs1 := Hsz.out
        have hs2 := HB2.out.size
        have HB5 := (((HB.out.trans (HB2.out.mono hs1)).alloc (show B ≤ w2.heap.size by omega) _).grown hg5 (by simp; omega) (fun g hg => (HR.out.lt g hg).1))
        have HW5 := Lib.hid HB5
        have HO5 := Lib.hid (show POwn w5 B v5 ((List.range (k + 1)).map fun i => (digs (i + 1), roundV N round i)) by rw [HS.out, Hv.out]; exact hown5)
        clear HB5 hown5 hg5 hat5
        go_roundw
        case rel => exact ⟨k + 1, by omega, by go_num, HO5, HW5⟩
        case measure => simp [intOf]; omega
      · have hNk : k + 1 = N := by omega
        have hb1 : (((k : Nat) : Int) == ((N : Nat) : Int) - 1) = true := beq_iff_eq.2 (by omega)
        cases round with
        | true =>
          have Hv := Lib.hid (show roundV N true k = [36, 123, 49, 125] by unfold roundV; rw [if_pos hNk]; rfl)
          have hc : (⟨#[36, 123, 49, 125]⟩ : ByteArray) = bz [36, 123, 49, 125] := rfl
          clear hNk hk1
          go_wp2_with (first
            | (go_at_call 20; with_reducible refine (H1.out _).mono ?_; rintro e w1 ⟨rfl, h1⟩; (have HB1 := Lib.hid h1; clear h1))
            | (go_at_call 20; with_reducible refine (H2.out _).mono ?_; rintro e w2 ⟨rfl, h1⟩; (have HB2 := Lib.hid (HB1.out.trans (h1.mono HB1.out.size)); clear h1))
            | (at_builtin; refine wpList_pushP rfl _ _ rfl (v := lv) rfl ((HR.out.new HB2.out).alloc _) w2.heap.size (digs (k + 1), [36, 123, 49, 125]) rfl (two_new _ _ _ _).1 (two_new _ _ _ _).2 Hlen.out (by have := HB2.out.size; have := Hsz.out; simp; omega) ?_; intro v5 w5 hown5 hg5 hat5))
          have hs1 := Hsz.out
          have hs2 := HB2.out.size
          have HB5 := (((HB.out.trans (HB2.out.mono hs1)).alloc (show B ≤ w2.heap.size by omega) _).grown hg5 (by simp; omega) (fun g hg => (HR.out.lt g hg).1))
          have HW5 := Lib.hid HB5
          have HO5 := Lib.hid (show POwn w5 B v5 ((List.range (k + 1)).map fun i => (digs (i + 1), roundV N true i)) by rw [HS.out, Hv.out]; exact hown5)
          clear HB5 hown5 hg5 hat5
          go_roundw
          case rel => exact ⟨k + 1, by omega, by go_num, HO5, HW5⟩
          case measure => simp [intOf]; omega
        | false =>
          have Hv := Lib.hid (show roundV N false k = [101, 110, 100] by unfold roundV; rw [if_pos hNk]; rfl)
          have hc : (⟨#[101, 110, 100]⟩ : ByteArray) = bz [101, 110, 100] := rfl
          clear hNk hk1
          go_wp2_with (first
            | (go_at_call 20; with_reducible refine (H1.out _).mono ?_; rintro e w1 ⟨rfl, h1⟩; (have HB1 := Lib.hid h1; clear h1))
            | (go_at_call 20; with_reducible refine (H2.out _).mono ?_; rintro e w2 ⟨rfl, h1⟩; (have HB2 := Lib.hid (HB1.out.trans (h1.mono HB1.out.size)); clear h1))
            | (at_builtin; refine wpList_pushP rfl _ _ rfl (v := lv) rfl ((HR.out.new HB2.out).alloc _) w2.heap.size (digs (k + 1), [101, 110, 100]) rfl (two_new _ _ _ _).1 (two_new _ _ _ _).2 Hlen.out (by have := HB2.out.size; have := Hsz.out; simp; omega) ?_; intro v5 w5 hown5 hg5 hat5))
          have hs1 := Hsz.out
          have hs2 := HB2.out.size
          have HB5 := (((HB.out.trans (HB2.out.mono hs1)).alloc (show B ≤ w2.heap.size by omega) _).grown hg5 (by simp; omega) (fun g hg => (HR.out.lt g hg).1))
          have HW5 := Lib.hid HB5
          have HO5 := Lib.hid (show POwn w5 B v5 ((List.range (k + 1)).map fun i => (digs (i + 1), roundV N false i)) by rw [HS.out, Hv.out]; exact hown5)
          clear HB5 hown5 hg5 hat5
          go_roundw
          case rel => exact ⟨k + 1, by omega, by go_num, HO5, HW5⟩
          case measure => simp [intOf]; omega
    · obtain rfl : k = N := by omega
      have hsz : B ≤ wr.heap.size := by rw [HBe.out]; exact HB.out.size
      have Hsz := Lib.hid hsz
      have HN := Lib.hid (New_any lv (roundL k round) wr (props_of_own HR.out fun g hg => (HR.out.lt g hg).2) (by simp [roundL]; omega))
      have HL := Lib.hid (roundL_small k round)
      have HMr := Lib.hid (HM.out.below HB.out hpos)
      have hc : (⟨#[60, 36, 123, 49, 125, 62]⟩ : ByteArray) = bz roundT := round_bz
      have c0 : (⟨#[]⟩ : ByteArray) = bz [] := rfl
      have e0 : ((bz []).toList == (bz []).toList) = true := by rw [bz_beq]; rfl
      have HX := Lib.hid (show (expP (roundL k round) [] roundT).1 = roundR k round from Hr.out)
      clear hsz
      rcases Nat.lt_or_ge 32 k with hbig | hbig
      · have hx : badOf (expP (roundL k round) [] roundT).1 = some (2, digs 33) := by rw [HX.out]; unfold roundR; rw [if_pos hbig]; rfl
        have HXb := Lib.hid hx
        have N33 := Lib.hid (fun w => Number_any 33 w (by omega))
        have e1 : ((bz (digs 33)).toList == (bz (digs 33)).toList) = true := by rw [bz_beq]; simp
        clear hx
        go_wp2_with (first
          | (go_at_call 12; with_reducible refine HN.out.mono ?_; rintro e w1 ⟨T, R, Dn, tv, rfl, h1, h2⟩; (have T1 := Lib.hid h1; have B1 := Lib.hid (HB.out.trans (h2.mono Hsz.out)); have M1 := Lib.hid (HMr.out.below h2 HMr.out.lt); clear h1 h2))
          | (go_at_call 13; with_reducible refine (Expand_bad (m := m) HMr.out.lt HL.out roundT 2 (digs 33) w1 M1.out T1.out (by decide) (by decide) HXb.out).mono ?_; rintro e w2 ⟨rfl, h1, h2⟩; (have B2 := Lib.hid (B1.out.trans (h2.below (B := B) (fun k hk => Nat.le_trans Hsz.out (chT_lo T1.out k hk)) (by have := B1.out.size; have := HBe.out; omega))); clear h1 h2))
          | (go_at_call 20; refine (N33.out w2).mono ?_; rintro e w3 ⟨rfl, h1⟩; (have B3 := Lib.hid (B2.out.trans (h1.mono (by have := B2.out.size; have := HBe.out; omega))); clear h1))
          | (go_at_call 17; with_reducible refine (lives_any (m := m) w3 (HM.out.below B3.out hpos)).mono ?_; rintro e w4 ⟨rfl, h1⟩; (have B4 := Lib.hid (B3.out.trans (h1.mono (by have := B3.out.size; have := HBe.out; omega))); clear h1)))
        go_ret
        exact ⟨rfl, by rw [← HBe.out]; exact B4.out⟩
      · cases round with
        | true =>
          have hx : badOf (expP (roundL k true) [] roundT).1 = some (22, digs 1) := by rw [HX.out]; unfold roundR; rw [if_neg (by omega)]; rfl
          have HXb := Lib.hid hx
          have h1c : (⟨#[49]⟩ : ByteArray) = bz (digs 1) := rfl
          have e1 : ((bz (digs 1)).toList == (bz (digs 1)).toList) = true := by rw [bz_beq]; simp
          clear hx
          go_wp2_with (first
            | (go_at_call 12; with_reducible refine HN.out.mono ?_; rintro e w1 ⟨T, R, Dn, tv, rfl, h1, h2⟩; (have T1 := Lib.hid h1; have B1 := Lib.hid (HB.out.trans (h2.mono Hsz.out)); have M1 := Lib.hid (HMr.out.below h2 HMr.out.lt); clear h1 h2))
            | (go_at_call 13; with_reducible refine (Expand_bad (m := m) HMr.out.lt HL.out roundT 22 (digs 1) w1 M1.out T1.out (by decide) (by decide) HXb.out).mono ?_; rintro e w2 ⟨rfl, h1, h2⟩; (have B2 := Lib.hid (B1.out.trans (h2.below (B := B) (fun k hk => Nat.le_trans Hsz.out (chT_lo T1.out k hk)) (by have := B1.out.size; have := HBe.out; omega))); clear h1 h2))
            | (go_at_call 17; with_reducible refine (lives_any (m := m) w2 (HM.out.below B2.out hpos)).mono ?_; rintro e w4 ⟨rfl, h1⟩; (have B4 := Lib.hid (B2.out.trans (h1.mono (by have := B2.out.size; have := HBe.out; omega))); clear h1)))
          go_ret
          exact ⟨rfl, by rw [← HBe.out]; exact B4.out⟩
        | false =>
          obtain ⟨dn, hx⟩ : ∃ dn, expP (roundL k false) [] roundT = (.ok [60, 101, 110, 100, 62], dn) := ⟨_, Prod.ext (by rw [HX.out]; unfold roundR; rw [if_neg (by omega)]; rfl) rfl⟩
          have HXb := Lib.hid hx
          have h1c : (⟨#[60, 101, 110, 100, 62]⟩ : ByteArray) = bz [60, 101, 110, 100, 62] := rfl
          have e1 : ((bz [60, 101, 110, 100, 62]).toList == (bz [60, 101, 110, 100, 62]).toList) = true := by rw [bz_beq]; rfl
          clear hx
          go_wp2_with (first
            | (go_at_call 12; with_reducible refine HN.out.mono ?_; rintro e w1 ⟨T, R, Dn, tv, rfl, h1, h2⟩; (have T1 := Lib.hid h1; have B1 := Lib.hid (HB.out.trans (h2.mono Hsz.out)); have M1 := Lib.hid (HMr.out.below h2 HMr.out.lt); clear h1 h2))
            | (go_at_call 13; with_reducible refine (Expand_ok (m := m) HMr.out.lt HL.out roundT _ _ w1 M1.out T1.out (by decide) HXb.out).mono ?_; rintro e w2 ⟨rfl, h1, h2⟩; (have B2 := Lib.hid (B1.out.trans (h2.below (B := B) (fun k hk => Nat.le_trans Hsz.out (chT_lo T1.out k hk)) (by have := B1.out.size; have := HBe.out; omega))); clear h1 h2))
            | (go_at_call 17; with_reducible refine (lives_any (m := m) w2 (HM.out.below B2.out hpos)).mono ?_; rintro e w4 ⟨rfl, h1⟩; (have B4 := Lib.hid (B2.out.trans (h1.mono (by have := B2.out.size; have := HBe.out; omega))); clear h1)))
          go_ret
          exact ⟨rfl, by rw [← HBe.out]; exact B4.out⟩
end Go.Proofs.Ytpgdioopkcfjdaa
