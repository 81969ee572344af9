/- CoordTogether: the law, walked. -/
import Derived.Test.YtldhgdoeehnbjaaDoorCoK1
import Derived.Test.YtldhgdoeehnbjaaDoorCoD2
namespace Go.Proofs.YtldhgdoeehnbjaaDoor
open Go.RowKit

abbrev InI (n : Int) : Prop := -9223372036854775808 ≤ n ∧ n ≤ 9223372036854775807
theorem wider_bnd {a b : Int} (ha : InI a) (hb : InI b) : InI (widerI a b) := by rcases wider_in a b with h | h <;> rw [h] <;> assumption
set_option maxHeartbeats 2000000 in
theorem walk_CoordTogether (m : Int) (W : World) (hm : MaxAt m W) (v0 v1 v2 : Value) (a0 : Arg Tryd.prog W 3 v0) (a1 : Arg Tryd.prog W 3 v1) (a2 : Arg Tryd.prog W 3 v2) : Calls Tryd.prog 5 #[v0, v1, v2] W fun e W' => e = .returned (.bool true) ∧ Below W.heap.size W W' := by
  obtain ⟨a, rfl, ha⟩ := arg_int a0
  obtain ⟨b, rfl, hb⟩ := arg_int a1
  obtain ⟨c, rfl, hc⟩ := arg_int a2
  clear a0 a1 a2
  have D1 := Lib.hid (fun w => Derive_any a b w)
  have D2 := Lib.hid (fun w => Derive_any (deriveI a b) c w)
  have D3 := Lib.hid (fun w => Derive_any b c w)
  have D4 := Lib.hid (fun w => Derive_any a (deriveI b c) w)
  rw [← derive_assoc a b c] at D4
  have W1 := Lib.hid (fun w => Wider_any a b w ha hb)
  have W2 := Lib.hid (fun w => Wider_any (widerI a b) c w (wider_bnd ha hb) hc)
  have W3 := Lib.hid (fun w => Wider_any b c w hb hc)
  have W4 := Lib.hid (fun w => Wider_any a (widerI b c) w ha (wider_bnd hb hc))
  rw [← wider_assoc a b c] at W4
  have W5 := Lib.hid (fun w => Wider_any a a w ha ha)
  rw [wider_self] at W5
  have W6 := Lib.hid (fun (h : (1 ≤ a ∧ a ≤ 5) ∧ (1 ≤ b ∧ b ≤ 5)) w => show Calls Tryd.prog 16 #[.int .i64 b, .int .i64 a] w fun e w' => e = .returned (.int .i64 (widerI a b)) ∧ w = w' by rw [← wider_comm h.1 h.2]; exact Wider_any b a w hb ha)
  have HD := Lib.hid (fun h => derive_wide a b h)
  have hd : deriveI a b = 0 ∨ (InI (deriveI a b) ∧ deriveI a b ≠ 0) := by
    rcases Classical.em (deriveI a b = 0) with h | h
    · exact .inl h
    · obtain ⟨_, _, h3, h4⟩ := HD.out h
      exact .inr ⟨by omega, h⟩
  have W7 := Lib.hid (fun (h : InI (deriveI a b)) w => Wider_any a (deriveI a b) w ha h)
  have V7 := Lib.hid (fun (h : InI (deriveI a b)) w => Visible_any (deriveI a b) 5 w h)
  have HL := Lib.hid (fun w (hm : MaxAt m w) => lives_any m w hm)
  have HM := Lib.hid hm
  clear hm ha hb hc
  generalize deriveI (deriveI a b) c = x at D2 D4
  generalize widerI (widerI a b) c = y at W2 W4
  generalize deriveI b c = d2 at D3 D4
  generalize widerI b c = w2 at W3 W4
  generalize widerI a b = w1 at W1 W2 W6
  have hR : (1 ≤ a ∧ a ≤ 5 ∧ 1 ≤ b ∧ b ≤ 5) ∨ a < 1 ∨ (1 ≤ a ∧ 5 < a) ∨ ((1 ≤ a ∧ a ≤ 5) ∧ b < 1) ∨ ((1 ≤ a ∧ a ≤ 5) ∧ 1 ≤ b ∧ 5 < b) := by omega
  rcases hd with hd | ⟨hdi, hd⟩
  case' inl =>
    rw [hd] at D1 D2
    clear W7 V7 HD hd
  case' inr =>
    obtain ⟨k1, k2, _, _⟩ := HD.out hd
    have W7 := Lib.hid (W7.out hdi)
    have V7 := Lib.hid (V7.out hdi)
    rw [k1] at W7
    rw [k2] at V7
    have ed : (deriveI a b == 0) = false := beq_eq_false_iff_ne.2 hd
    generalize deriveI a b = d at D1 D2 W7 V7 ed
    clear HD k1 k2 hdi hd
  all_goals
    rcases hR with ⟨h1, h2, h3, h4⟩ | h1 | ⟨h1, h2⟩ | ⟨⟨h1, h2⟩, h3⟩ | ⟨⟨h1, h2⟩, h3, h4⟩
    all_goals
      first
        | (have W6 := Lib.hid (W6.out ⟨⟨h1, h2⟩, h3, h4⟩))
        | skip
      go_enter Tryd.func5, Tryd.ntmps5
      go_wp2_with (first
        | (go_at_call 14; with_reducible refine (D1.out _).mono ?_; rintro e w1 ⟨rfl, rfl⟩)
        | (go_at_call 14; with_reducible refine (D2.out _).mono ?_; rintro e w1 ⟨rfl, rfl⟩)
        | (go_at_call 14; with_reducible refine (D3.out _).mono ?_; rintro e w1 ⟨rfl, rfl⟩)
        | (go_at_call 14; with_reducible refine (D4.out _).mono ?_; rintro e w1 ⟨rfl, rfl⟩)
        | (go_at_call 16; with_reducible refine (W1.out _).mono ?_; rintro e w1 ⟨rfl, rfl⟩)
        | (go_at_call 16; with_reducible refine (W2.out _).mono ?_; rintro e w1 ⟨rfl, rfl⟩)
        | (go_at_call 16; with_reducible refine (W3.out _).mono ?_; rintro e w1 ⟨rfl, rfl⟩)
        | (go_at_call 16; with_reducible refine (W4.out _).mono ?_; rintro e w1 ⟨rfl, rfl⟩)
        | (go_at_call 16; with_reducible refine (W5.out _).mono ?_; rintro e w1 ⟨rfl, rfl⟩)
        | (go_at_call 16; with_reducible refine (W6.out _).mono ?_; rintro e w1 ⟨rfl, rfl⟩)
        | (go_at_call 16; with_reducible refine (W7.out _).mono ?_; rintro e w1 ⟨rfl, rfl⟩)
        | (go_at_call 18; with_reducible refine (V7.out _).mono ?_; rintro e w1 ⟨rfl, rfl⟩)
        | (go_at_call 11; with_reducible refine (HL.out _ HM.out).mono ?_; rintro e w4 ⟨rfl, hb⟩; have HB3 := Lib.hid hb; clear hb))
      go_ret
      exact ⟨rfl, HB3.out⟩
end Go.Proofs.YtldhgdoeehnbjaaDoor
