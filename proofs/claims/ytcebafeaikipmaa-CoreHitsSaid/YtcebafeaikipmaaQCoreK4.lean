/- The law CoreOpen, walked. -/
import Derived.Test.YtcebafeaikipmaaQCoreK3
namespace Go.Proofs.Ytcebafeaikipmaa
open Go.RowKit

theorem leastO_done {B : List WantD → Except (Int × Int) Bool} {C : List WantD → Bool} (h : ∀ k b, B k = .ok b → b = C k) {m : List WantD} : ∀ {xs l : List WantD}, leastO B xs l = .ok m → m = leastL C xs l
  | [], l, e => by cases e; rfl
  | x :: xs, l, e => by
    rw [leastO] at e
    cases hb : B (withoutW l x) with
    | error q => rw [hb] at e; cases e
    | ok b =>
      rw [hb] at e
      rw [leastL, ← h _ _ hb]
      exact leastO_done h e
/-- core.Of with many conflicts, of a deal that can be -/
theorem of_none {items : List ItemD} {wss : List (List (List Int))} {r : Int} {most : Int} (hl : lightC items.length wss = true) (hm : mayN items.length r wss = 0) (h5 : 512 ≤ most) (h2 : most ≤ 2000000) (hbl : blamedB items wss r = false) (s0 s1 : Value) (w : World) (h0 : RItems w (Lt w.heap.size) s0 items) (hw : RIntsss w (Lt w.heap.size) s1 wss) :
    Calls Try.prog 15 #[.agg #[s0, s1, .int .i64 r], .int .i64 most] w fun e w' => (∃ A c, e = .returned (.tuple #[.slice A 0 c, .int .i64 1, .int .i64 0]) ∧ RWants w' (Lt w'.heap.size) (.slice A 0 c) []) ∧ Below w.heap.size w w' := by
  obtain ⟨mst, rfl⟩ := Int.eq_ofNat_of_zero_le (show 0 ≤ most by omega)
  have hB : ∀ m, IbR items (onlyW m wss) r (mst : Int) (.ok (blamedB items (onlyW m wss) r)) := fun m => ⟨only_may m hm, by omega, by rw [Int.toNat_natCast]; exact never_open (only_may m hm) (only_light m hl) (by omega), rfl⟩
  have hO : IbR items wss r (mst : Int) (.ok (blamedB items wss r)) := ⟨hm, by omega, by rw [Int.toNat_natCast]; exact never_open hm hl (by omega), rfl⟩
  refine (of_any s0 s1 r mst items wss w _ (fun m => .ok (blamedB items (onlyW m wss) r)) h0 hw hl (.inr h5) h2 hO hB).mono ?_
  rintro e w' ⟨v, rfl, hr, hb⟩
  rw [hbl] at hr ⊢
  obtain ⟨A, c, rfl⟩ := hr.shape
  exact ⟨⟨A, c, rfl, hr⟩, hb⟩
/-- core.Of with few conflicts -/
theorem of_few {items : List ItemD} {wss : List (List (List Int))} {r : Int} {most : Int} (hl : lightC items.length wss = true) (hm : mayN items.length r wss = 0) (h5 : 0 ≤ most) (h2 : most ≤ 200) (s0 s1 : Value) (w : World) (h0 : RItems w (Lt w.heap.size) s0 items) (hw : RIntsss w (Lt w.heap.size) s1 wss) :
    Calls Try.prog 15 #[.agg #[s0, s1, .int .i64 r], .int .i64 most] w fun e w' => (∃ A n c, ∃ x : Int, e = .returned (.tuple #[.slice A n c, .int .i64 x, .int .i64 0]) ∧ (x = 3 ∧ n = 0 ∨ x = 1 ∧ n = 0 ∧ blamedB items wss r = false ∧ RWants w' (Lt w'.heap.size) (.slice A n c) [] ∨
      x = 2 ∧ blamedB items wss r = true ∧ n = (leastL (fun m => blamedB items (onlyW m wss) r) (allW wss) (allW wss)).length ∧ RWants w' (Lt w'.heap.size) (.slice A n c) (leastL (fun m => blamedB items (onlyW m wss) r) (allW wss) (allW wss)))) ∧ Below w.heap.size w w' := by
  obtain ⟨B, hB⟩ : ∃ B : List WantD → Except (Int × Int) Bool, ∀ m, IbR items (onlyW m wss) r most (B m) := Classical.axiomOfChoice fun m => ibR_some items (onlyW m wss) r most
  obtain ⟨o0, hO⟩ := ibR_some items wss r most
  have he : ∀ {ws : List (List (List Int))} {p : Int × Int}, mayN items.length r ws = 0 → IbR items ws r most (.error p) → p = (3, 0) := by
    rintro ws ⟨x, y⟩ h (⟨h1, _⟩ | ⟨_, h1, _⟩ | ⟨_, _, _, rfl, rfl⟩)
    · exact absurd h h1
    · omega
    · rfl
  refine (of_any s0 s1 r most items wss w o0 B h0 hw hl (.inl h2) (by omega) hO hB).mono ?_
  rintro e w' ⟨v, rfl, hr, hb⟩
  refine ⟨?_, hb⟩
  cases o0 with
  | error p =>
    obtain ⟨A, c, rfl⟩ := hr.shape
    have := he hm hO
    subst this
    exact ⟨A, 0, c, 3, rfl, .inl ⟨rfl, rfl⟩⟩
  | ok bb =>
    cases bb with
    | false =>
      obtain ⟨A, c, rfl⟩ := hr.shape
      exact ⟨A, 0, c, 1, rfl, .inr (.inl ⟨rfl, rfl, hO.2.2.2.symm, hr⟩)⟩
    | true =>
      cases hlo : leastO B (allW wss) (allW wss) with
      | error p =>
        rw [hlo] at hr
        obtain ⟨A, c, rfl⟩ := hr.shape
        obtain ⟨m, hm2⟩ := leastO_err hlo
        have h3 := hB m
        rw [hm2] at h3
        have := he (only_may m hm) h3
        subst this
        exact ⟨A, 0, c, 3, rfl, .inl ⟨rfl, rfl⟩⟩
      | ok m =>
        rw [hlo] at hr
        obtain ⟨A, c, rfl⟩ := hr.shape
        have := leastO_done (C := fun m => blamedB items (onlyW m wss) r) (fun k b hk => by have := hB k; rw [hk] at this; exact this.2.2.2) hlo
        subst this
        exact ⟨A, _, c, 2, rfl, .inr (.inr ⟨rfl, hO.2.2.2.symm, rfl, hr⟩)⟩
/-- core.Of with a limit below nought -/
theorem of_below {items : List ItemD} {wss : List (List (List Int))} {r : Int} (hl : lightC items.length wss = true) (hm : mayN items.length r wss = 0) (s0 s1 : Value) (w : World) (h0 : RItems w (Lt w.heap.size) s0 items) (hw : RIntsss w (Lt w.heap.size) s1 wss) :
    Calls Try.prog 15 #[.agg #[s0, s1, .int .i64 r], .int .i64 (-1)] w fun e w' => (∃ A c, e = .returned (.tuple #[.slice A 0 c, .int .i64 0, .int .i64 1])) ∧ Below w.heap.size w w' := by
  obtain ⟨B, hB⟩ : ∃ B : List WantD → Except (Int × Int) Bool, ∀ m, IbR items (onlyW m wss) r (-1) (B m) := Classical.axiomOfChoice fun m => ibR_some items (onlyW m wss) r (-1)
  have hO : IbR items wss r (-1) (.error (0, 1)) := .inr (.inl ⟨hm, by omega, rfl, rfl⟩)
  refine (of_any s0 s1 r (-1) items wss w _ B h0 hw hl (.inl (by omega)) (by omega) hO hB).mono ?_
  rintro e w' ⟨v, rfl, hr, hb⟩
  obtain ⟨A, c, rfl⟩ := hr.shape
  exact ⟨⟨A, c, rfl⟩, hb⟩
set_option maxRecDepth 100000 in
set_option maxHeartbeats 8000000 in
theorem walk_CoreOpen (W : World) (v0 v1 : Value) (a0 : Arg Try.prog W 25 v0) (a1 : Arg Try.prog W 3 v1) : Calls Try.prog 6 #[v0, v1] W fun e W' => e = .returned (.bool true) ∧ Below W.heap.size W W' := by
  obtain ⟨s0, s1, r, items, wss, rfl, h0, h1, hr1, hr2⟩ := arg_deal a0
  obtain ⟨most, rfl, hmo1, hmo2⟩ := arg_int a1
  obtain ⟨A0, c0, rfl, hm0, -⟩ := h0.open_
  obtain ⟨A1, c1, rfl, hm1, -⟩ := h1.open_
  have HD := Lib.hid (DB.start (r := r) h0 h1)
  obtain ⟨d0, d1, d2⟩ := HD.out.cells
  clear h0 h1 a0 a1
  by_cases hl : lightC items.length wss = true
  case neg =>
    have Hl := Lib.hid (show lightC items.length wss = false by simpa using hl)
    clear hl
    go_enter Try.func6, Try.ntmps6
    go_wp2_with (first
      | (go_at_call 8; with_reducible refine (light27_any _ _ _ _ _ wss _ HD.out.rW).mono ?_; rintro e w1 ⟨rfl, hb⟩; rw [Hl.out]; have HD1 := Lib.hid (HD.out.up hb); obtain ⟨e0, e1, e2⟩ := HD1.out.cells; clear hb)
      | (go_at_call 9; with_reducible refine (lives_any _).mono ?_; rintro e w2 ⟨rfl, hb⟩; have HB2 := Lib.hid (HD1.out.up hb).bel; clear hb))
    go_ret
    exact ⟨rfl, HB2.out⟩
  have Hl := Lib.hid hl
  clear hl
  by_cases hm : mayN items.length r wss = 0
  case neg =>
    have Hm := Lib.hid hm
    have hmk : ((mayN items.length r wss : Nat) : Int) = 1 := by rw [light_may27 Hl.out hm]; rfl
    clear hm
    go_enter Try.func6, Try.ntmps6
    go_wp2_with (first
      | (go_at_call 8; with_reducible refine (light27_any _ _ _ _ _ wss _ HD.out.rW).mono ?_; rintro e w1 ⟨rfl, hb⟩; rw [Hl.out]; have HD1 := Lib.hid (HD.out.up hb); obtain ⟨e0, e1, e2⟩ := HD1.out.cells; clear hb)
      | (go_at_call 16; with_reducible refine (refMay_any _ _ _ _ _ wss _ HD1.out.rW).mono ?_; rintro e w2 ⟨rfl, hb⟩; rw [hmk]; have HD2 := Lib.hid (HD1.out.up hb); obtain ⟨f0, f1, f2⟩ := HD2.out.cells; clear hb)
      | (go_at_call 9; with_reducible refine (lives_any _).mono ?_; rintro e w3 ⟨rfl, hb⟩; have HB3 := Lib.hid (HD2.out.up hb).bel; clear hb))
    go_ret
    exact ⟨rfl, HB3.out⟩
  have Hm := Lib.hid hm
  have Hm0 := Lib.hid (show ((mayN items.length r wss : Nat) : Int) = 0 by rw [hm]; rfl)
  clear hm
  obtain ⟨ms, hms⟩ : ∃ ms : Int, ms = max (-1) (min most 20) := ⟨_, rfl⟩
  have hms1 : -1 ≤ ms := by omega
  have hms2 : ms ≤ 20 := by omega
  have Hms := Lib.hid hms
  clear hms
  go_enter Try.func6, Try.ntmps6
  go_upto_region 4 with (first
    | (go_at_call 8; with_reducible refine (light27_any _ _ _ _ _ wss _ HD.out.rW).mono ?_; rintro e w1 ⟨rfl, hb⟩; rw [Hl.out]; have HD1 := Lib.hid (HD.out.up hb); obtain ⟨e0, e1, e2⟩ := HD1.out.cells; clear hb)
    | (go_at_call 16; with_reducible refine (refMay_any _ _ _ _ _ wss _ HD1.out.rW).mono ?_; rintro e w2 ⟨rfl, hb⟩; rw [Hm0.out]; have HD2 := Lib.hid (HD1.out.up hb); obtain ⟨f0, f1, f2⟩ := HD2.out.cells; clear hb))
  rw [show (if (-1 : Int) < (if (20 : Int) < most then 20 else most) then (if (20 : Int) < most then 20 else most) else -1) = ms by have := Hms.out; split <;> split <;> omega]
  generalize (if (20 : Int) < most then (20 : Int) else most) = mn
  rcases Int.lt_or_le ms 0 with hneg | hpos
  · obtain rfl : ms = -1 := by omega
    go_wp2_with (first
      | (go_at_call 15; with_reducible refine (of_below Hl.out Hm.out _ _ _ HD2.out.rI HD2.out.rW).mono ?_; rintro e w3 ⟨⟨A3, c3, rfl⟩, hb⟩; have HD3 := Lib.hid (HD2.out.up hb); clear hb)
      | (go_at_call 9; with_reducible refine (lives_any _).mono ?_; rintro e w4 ⟨rfl, hb⟩; have HB4 := Lib.hid (HD3.out.up hb).bel; clear hb))
    go_ret
    exact ⟨rfl, HB4.out⟩
  · have hd : decide (ms < 0) = false := decide_eq_false (by omega)
    go_wp2_with fail
    refine (of_few Hl.out Hm.out hpos (by omega) _ _ _ HD2.out.rI HD2.out.rW).mono ?_
    rintro e w3 ⟨⟨A3, n3, c3, x, rfl, hq⟩, hb⟩
    have HD3 := Lib.hid (HD2.out.up hb)
    obtain ⟨g0, g1, g2⟩ := HD3.out.cells
    have HF := Lib.hid (of_many (most := 100000) Hl.out Hm.out (by omega) (by omega) _ _ w3 HD3.out.rI HD3.out.rW)
    clear hb d0 d1 d2 e0 e1 e2 f0 f1 f2
    obtain ⟨l, hlq⟩ : ∃ l, l = leastL (fun m => blamedB items (onlyW m wss) r) (allW wss) (allW wss) := ⟨_, rfl⟩
    rw [← hlq] at hq HF
    clear hlq
    have HQ := Lib.hid hq
    clear hq
    cases hbl : blamedB items wss r with
    | false =>
      have HF2 := Lib.hid (of_none (most := 100000) Hl.out Hm.out (by omega) (by omega) hbl _ _ w3 HD3.out.rI HD3.out.rW)
      rcases HQ.out with ⟨rfl, rfl⟩ | ⟨rfl, rfl, -, hr⟩ | ⟨-, h, -⟩
      · clear HF HQ hbl
        go_wp2_with (first
      | (go_at_call 15; with_reducible refine HF2.out.mono ?_; rintro e w4 ⟨⟨A4, c4, rfl, h4⟩, hb⟩; have HD4 := Lib.hid (HD3.out.up hb); clear hb h4)
      | (go_at_call 9; with_reducible refine (lives_any _).mono ?_; rintro e w5 ⟨rfl, hb⟩; have HB5 := Lib.hid (HD4.out.up hb).bel; clear hb))
        go_ret
        exact ⟨rfl, HB5.out⟩
      · have HR := Lib.hid hr
        clear HF HQ hbl hr
        go_wp2_with (first
      | (go_at_call 15; with_reducible refine HF2.out.mono ?_; rintro e w4 ⟨⟨A4, c4, rfl, h4⟩, hb⟩; have HD4 := Lib.hid (HD3.out.up hb); have HR4 := Lib.hid (RWants.stable.up HR.out hb); have HS4 := Lib.hid h4; clear hb h4)
      | (go_at_call 12; with_reducible refine (same_any _ _ [] [] _ HR4.out HS4.out).mono ?_; rintro e w5 ⟨rfl, hb⟩; rw [beq_self_eq_true]; have HD5 := Lib.hid (HD4.out.up hb); clear hb)
      | (go_at_call 9; with_reducible refine (lives_any _).mono ?_; rintro e w6 ⟨rfl, hb⟩; have HB6 := Lib.hid (HD5.out.up hb).bel; clear hb))
        go_ret
        exact ⟨rfl, HB6.out⟩
      · rw [hbl] at h; cases h
    | true =>
      have HF2 := Lib.hid (show Calls Try.prog 15 #[.agg #[.slice A0 items.length c0, .slice A1 wss.length c1, .int .i64 r], .int .i64 100000] w3 fun e w' => (∃ A n c, e = .returned (.tuple #[.slice A n c, .int .i64 2, .int .i64 0]) ∧ RWants w' (Lt w'.heap.size) (.slice A n c) l) ∧ Below w3.heap.size w3 w' from HF.out.mono fun e w' h => by
        rw [hbl] at h
        rcases h with ⟨⟨h, _⟩ | ⟨_, A, n, c, _, h1, h2⟩, hb⟩
        · cases h
        · exact ⟨⟨A, n, c, h1, h2⟩, hb⟩)
      rcases HQ.out with ⟨rfl, rfl⟩ | ⟨-, -, h, -⟩ | ⟨rfl, -, -, hr⟩
      · clear HF HQ hbl
        go_wp2_with (first
      | (go_at_call 15; with_reducible refine HF2.out.mono ?_; rintro e w4 ⟨⟨A4, n4, c4, rfl, h4⟩, hb⟩; have HD4 := Lib.hid (HD3.out.up hb); clear hb h4)
      | (go_at_call 9; with_reducible refine (lives_any _).mono ?_; rintro e w5 ⟨rfl, hb⟩; have HB5 := Lib.hid (HD4.out.up hb).bel; clear hb))
        go_ret
        exact ⟨rfl, HB5.out⟩
      · rw [hbl] at h; cases h
      · have HR := Lib.hid hr
        clear HF HQ hbl hr
        go_wp2_with (first
      | (go_at_call 15; with_reducible refine HF2.out.mono ?_; rintro e w4 ⟨⟨A4, n4, c4, rfl, h4⟩, hb⟩; have HD4 := Lib.hid (HD3.out.up hb); have HR4 := Lib.hid (RWants.stable.up HR.out hb); have HS4 := Lib.hid h4; clear hb h4)
      | (go_at_call 12; with_reducible refine (same_any _ _ l l _ HR4.out HS4.out).mono ?_; rintro e w5 ⟨rfl, hb⟩; rw [beq_self_eq_true]; have HD5 := Lib.hid (HD4.out.up hb); clear hb)
      | (go_at_call 9; with_reducible refine (lives_any _).mono ?_; rintro e w6 ⟨rfl, hb⟩; have HB6 := Lib.hid (HD5.out.up hb).bel; clear hb))
        go_ret
        exact ⟨rfl, HB6.out⟩
end Go.Proofs.Ytcebafeaikipmaa
