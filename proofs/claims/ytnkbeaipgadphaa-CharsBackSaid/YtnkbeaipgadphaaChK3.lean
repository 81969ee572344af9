/- CharsLetters: the law, walked. -/
import Derived.Test.YtnkbeaipgadphaaChW12
import Derived.Test.YtnkbeaipgadphaaArgC2
namespace Go.Proofs.Ytnkbeaipgadphaa
open Go.RowKit
open C01

theorem letterS_ne {n : Int} (h : letterOk n = true) : letterS n ≠ ⟨#[]⟩ := by
  have h' : n = 9 ∨ n = 10 ∨ n = 13 ∨ (32 ≤ n ∧ n ≤ 1114111 ∧ ¬ (55296 ≤ n ∧ n ≤ 57343)) := of_decide_eq_true h
  unfold letterS
  rw [if_pos h]
  intro e
  have e2 := congrArg ByteArray.size e
  rcases (show n < 128 ∨ (128 ≤ n ∧ n < 2048) ∨ (2048 ≤ n ∧ n < 65536) ∨ 65536 ≤ n by omega) with h1 | h1 | h1 | h1
  · rw [enc_one (by omega) h1, txt_size] at e2; cases e2
  · rw [enc_two h1.1 h1.2, txt_size] at e2; cases e2
  · rw [enc_three h1.1 h1.2 (by omega), txt_size] at e2; cases e2
  · rw [enc_four h1 (by omega), txt_size] at e2; cases e2
set_option maxHeartbeats 1000000 in
theorem walk_CharsLetters (W : World) (v0 : Value) (a0 : Arg Try.prog W 3 v0) : Calls Try.prog 3 #[v0] W fun e W' => e = .returned (.bool true) ∧ Below W.heap.size W W' := by
  obtain ⟨n, rfl, hn⟩ := arg_int a0
  clear a0
  have H1 := Lib.hid (fun w => Letter_any n w hn)
  have H2 := Lib.hid (fun w => refLetter_any n w hn)
  have HL := Lib.hid (fun w => lives_any w)
  cases hl : letterOk n with
  | true =>
    have hne := letterS_ne hl
    rw [hl] at H1
    generalize letterS n = s at H1 H2 hne
    have e1 := str_ne hne
    have e2 : (s.toList != []) = true := by rw [bne, e1]; rfl
    have e3 : (!(s.toList == [])) = true := by rw [e1]; rfl
    clear hl hne hn
    go_enter Try.func3, Try.ntmps3
    go_wp2_with (first
      | (go_at_call 13; with_reducible refine (H1.out _).mono ?_; rintro e w1 ⟨rfl, hb⟩; have HB := Lib.hid hb; clear hb)
      | (go_at_call 14; with_reducible refine (H2.out _).mono ?_; rintro e w2 ⟨rfl, hb⟩; have HB2 := Lib.hid hb; clear hb)
      | (go_at_call 15; with_reducible refine (HL.out _).mono ?_; rintro e w3 ⟨rfl, hb⟩; have HB3 := Lib.hid hb; clear hb))
    go_ret
    exact ⟨rfl, HB.out.trans ((HB2.out.mono HB.out.size).trans (HB3.out.mono (Nat.le_trans HB.out.size HB2.out.size)))⟩
  | false =>
    have hz : letterS n = ⟨#[]⟩ := by unfold letterS; rw [hl]; rfl
    rw [hl, hz] at H1
    rw [hz] at H2
    clear hl hn hz
    go_enter Try.func3, Try.ntmps3
    go_wp2_with (first
      | (go_at_call 13; with_reducible refine (H1.out _).mono ?_; rintro e w1 ⟨rfl, hb⟩; have HB := Lib.hid hb; clear hb)
      | (go_at_call 14; with_reducible refine (H2.out _).mono ?_; rintro e w2 ⟨rfl, hb⟩; have HB2 := Lib.hid hb; clear hb)
      | (go_at_call 15; with_reducible refine (HL.out _).mono ?_; rintro e w3 ⟨rfl, hb⟩; have HB3 := Lib.hid hb; clear hb))
    go_ret
    exact ⟨rfl, HB.out.trans ((HB2.out.mono HB.out.size).trans (HB3.out.mono (Nat.le_trans HB.out.size HB2.out.size)))⟩
end Go.Proofs.Ytnkbeaipgadphaa
