/- scopes. -/
import Derived.Test.YtldhgdoeehnbjaaDoorCoD
import Derived.Test.YtldhgdoeehnbjaaDoorPlain
import Derived.Deep.DeepCutAuto
namespace Go.Proofs.YtldhgdoeehnbjaaDoor
open Go.RowKit

def deriveI (o i : Int) : Int := if o = 1 ∨ o = 2 ∨ o = 3 ∨ o = 5 then (if i = 1 ∨ i = 2 then (if o = 1 then i else o) else 0) else 0
def widthI (s : Int) : Int := if s < 1 ∨ 5 < s then 0 else 6 - s
def widerI (a b : Int) : Int := if widthI a < widthI b then b else a
def visB (s p : Int) : Bool := decide ((p = 1 ∧ (s = 1 ∨ s = 3 ∨ s = 4)) ∨ (p = 2 ∧ (s = 1 ∨ s = 2)) ∨ (p = 3 ∧ (s = 1 ∨ s = 3)) ∨ (p = 4 ∧ s = 4) ∨ (p = 5 ∧ 1 ≤ s ∧ s ≤ 5))
set_option maxHeartbeats 1000000 in
theorem Derive_any (o i : Int) (w : World) : Calls Tryd.prog 14 #[.int .i64 o, .int .i64 i] w fun e w' => e = .returned (.int .i64 (deriveI o i)) ∧ w = w' := by
  rcases (show o = 1 ∨ o = 2 ∨ o = 3 ∨ o = 5 ∨ (o ≠ 1 ∧ o ≠ 2 ∧ o ≠ 3 ∧ o ≠ 5) by omega) with rfl | rfl | rfl | rfl | ⟨h1, h2, h3, h5⟩
  case inr.inr.inr.inr =>
    have e1 : (o == 1) = false := by rw [beq_eq_false_iff_ne]; omega
    have e2 : (o == 2) = false := by rw [beq_eq_false_iff_ne]; omega
    have e3 : (o == 3) = false := by rw [beq_eq_false_iff_ne]; omega
    have e5 : (o == 5) = false := by rw [beq_eq_false_iff_ne]; omega
    have Hr := Lib.hid (show deriveI o i = 0 by unfold deriveI; rw [if_neg (by omega)])
    clear h1 h2 h3 h5
    go_enter Tryd.func14, Tryd.ntmps14
    go_wp2
    go_ret
    exact ⟨ret_int (by rw [Hr.out]), rfl⟩
  all_goals
    rcases (show i = 1 ∨ i = 2 ∨ (i ≠ 1 ∧ i ≠ 2) by omega) with rfl | rfl | ⟨h1, h2⟩
    case inr.inr =>
      have e1 : (i == 1) = false := by rw [beq_eq_false_iff_ne]; omega
      have e2 : (i == 2) = false := by rw [beq_eq_false_iff_ne]; omega
      have g1 : (i != 1) = true := by rw [bne, e1]; rfl
      have g2 : (i != 2) = true := by rw [bne, e2]; rfl
      have Hr := Lib.hid (fun o (ho : o = 1 ∨ o = 2 ∨ o = 3 ∨ o = 5) => show deriveI o i = 0 by unfold deriveI; rw [if_pos ho, if_neg (by omega)])
      clear h1 h2
      go_enter Tryd.func14, Tryd.ntmps14
      go_wp2
      go_ret
      exact ⟨ret_int (by rw [Hr.out _ (by omega)]), rfl⟩
    all_goals
      go_enter Tryd.func14, Tryd.ntmps14
      go_wp2
      go_ret
      exact ⟨rfl, rfl⟩
theorem width_any (s : Int) (w : World) (hs : -9223372036854775808 ≤ s ∧ s ≤ 9223372036854775807) : Calls Tryd.prog 39 #[.int .i64 s] w fun e w' => e = .returned (.int .i64 (widthI s)) ∧ w = w' := by
  rcases (show s < 1 ∨ 5 < s ∨ (1 ≤ s ∧ s ≤ 5) by omega) with h | h | ⟨h, h2⟩
  case inr.inr =>
    have Hr := Lib.hid (show widthI s = 6 - s by unfold widthI; rw [if_neg (by omega)])
    go_enter Tryd.func39, Tryd.ntmps39
    go_wp2
    go_ret
    exact ⟨ret_int (by rw [Hr.out]), rfl⟩
  all_goals
    have Hr := Lib.hid (show widthI s = 0 by unfold widthI; rw [if_pos (by omega)])
    go_enter Tryd.func39, Tryd.ntmps39
    go_wp2
    go_ret
    exact ⟨ret_int (by rw [Hr.out]), rfl⟩
theorem Wider_any (a b : Int) (w : World) (ha : -9223372036854775808 ≤ a ∧ a ≤ 9223372036854775807) (hb : -9223372036854775808 ≤ b ∧ b ≤ 9223372036854775807) : Calls Tryd.prog 16 #[.int .i64 a, .int .i64 b] w fun e w' => e = .returned (.int .i64 (widerI a b)) ∧ w = w' := by
  have H1 := Lib.hid (fun w => width_any a w ha)
  have H2 := Lib.hid (fun w => width_any b w hb)
  have Hr := Lib.hid (show widerI a b = if widthI a < widthI b then b else a from rfl)
  generalize widerI a b = r at Hr ⊢
  generalize widthI a = x at Hr H1
  generalize widthI b = y at Hr H2
  clear ha hb
  rcases Int.lt_or_le x y with h | h
  · have Hr := Lib.hid (Hr.out.trans (if_pos h))
    go_enter Tryd.func16, Tryd.ntmps16
    go_wp2_with (first | (go_at_call 39; with_reducible refine (H1.out _).mono ?_; rintro e w1 ⟨rfl, rfl⟩) | (go_at_call 39; with_reducible refine (H2.out _).mono ?_; rintro e w1 ⟨rfl, rfl⟩))
    go_ret
    exact ⟨ret_int (by rw [Hr.out]), rfl⟩
  · have Hr := Lib.hid (Hr.out.trans (if_neg (by omega)))
    go_enter Tryd.func16, Tryd.ntmps16
    go_wp2_with (first | (go_at_call 39; with_reducible refine (H1.out _).mono ?_; rintro e w1 ⟨rfl, rfl⟩) | (go_at_call 39; with_reducible refine (H2.out _).mono ?_; rintro e w1 ⟨rfl, rfl⟩))
    go_ret
    exact ⟨ret_int (by rw [Hr.out]), rfl⟩
set_option maxHeartbeats 2000000 in
theorem Visible_any (s p : Int) (w : World) (hs : -9223372036854775808 ≤ s ∧ s ≤ 9223372036854775807) : Calls Tryd.prog 18 #[.int .i64 s, .int .i64 p] w fun e w' => e = .returned (.bool (visB s p)) ∧ w = w' := by
  have H1 := Lib.hid (fun w => width_any s w hs)
  rcases (show s < 1 ∨ s = 1 ∨ s = 2 ∨ s = 3 ∨ s = 4 ∨ s = 5 ∨ 5 < s by omega) with h | h | h | h | h | h | h
  case' inl => rw [show widthI s = 0 by unfold widthI; rw [if_pos (by omega)]] at H1
  case' inr.inl => subst h; rw [show widthI 1 = 5 from rfl] at H1
  case' inr.inr.inl => subst h; rw [show widthI 2 = 4 from rfl] at H1
  case' inr.inr.inr.inl => subst h; rw [show widthI 3 = 3 from rfl] at H1
  case' inr.inr.inr.inr.inl => subst h; rw [show widthI 4 = 2 from rfl] at H1
  case' inr.inr.inr.inr.inr.inl => subst h; rw [show widthI 5 = 1 from rfl] at H1
  case' inr.inr.inr.inr.inr.inr => rw [show widthI s = 0 by unfold widthI; rw [if_pos (by omega)]] at H1
  case inl =>
    have Hr := Lib.hid (show visB s p = false from decide_eq_false (by omega))
    go_enter Tryd.func18, Tryd.ntmps18
    go_wp2_with (go_at_call 39; with_reducible refine (H1.out _).mono ?_; rintro e w1 ⟨rfl, rfl⟩)
    go_ret
    exact ⟨ret_bool (by rw [Hr.out]), rfl⟩
  case inr.inr.inr.inr.inr.inr =>
    have Hr := Lib.hid (show visB s p = false from decide_eq_false (by omega))
    go_enter Tryd.func18, Tryd.ntmps18
    go_wp2_with (go_at_call 39; with_reducible refine (H1.out _).mono ?_; rintro e w1 ⟨rfl, rfl⟩)
    go_ret
    exact ⟨ret_bool (by rw [Hr.out]), rfl⟩
  all_goals
    clear hs
    rcases (show p = 1 ∨ p = 2 ∨ p = 3 ∨ p = 4 ∨ p = 5 ∨ (p < 1 ∨ 5 < p) by omega) with rfl | rfl | rfl | rfl | rfl | h
    case inr.inr.inr.inr.inr =>
      have e1 : (p == 1) = false := by rw [beq_eq_false_iff_ne]; omega
      have e2 : (p == 2) = false := by rw [beq_eq_false_iff_ne]; omega
      have e3 : (p == 3) = false := by rw [beq_eq_false_iff_ne]; omega
      have e4 : (p == 4) = false := by rw [beq_eq_false_iff_ne]; omega
      have e5 : (p == 5) = false := by rw [beq_eq_false_iff_ne]; omega
      have Hr := Lib.hid (fun s => show visB s p = false from decide_eq_false (by omega))
      clear h
      go_enter Tryd.func18, Tryd.ntmps18
      go_wp2_with (go_at_call 39; with_reducible refine (H1.out _).mono ?_; rintro e w1 ⟨rfl, rfl⟩)
      go_ret
      exact ⟨ret_bool (by rw [Hr.out]), rfl⟩
    all_goals
      go_enter Tryd.func18, Tryd.ntmps18
      go_wp2_with (go_at_call 39; with_reducible refine (H1.out _).mono ?_; rintro e w1 ⟨rfl, rfl⟩)
      go_ret
      exact ⟨rfl, rfl⟩
end Go.Proofs.YtldhgdoeehnbjaaDoor
