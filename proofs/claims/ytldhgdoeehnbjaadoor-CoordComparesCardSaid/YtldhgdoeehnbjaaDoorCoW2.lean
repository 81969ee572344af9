/- ids and versions: the references; keys, projects, patterns that may be. -/
import Derived.Test.YtldhgdoeehnbjaaDoorCoW1
import Derived.Test.YtldhgdoeehnbjaaDoorShSpl
namespace Go.Proofs.YtldhgdoeehnbjaaDoor
open Go.RowKit
open C01

theorem id_ranges (x : Nat) : x < 45 ∨ x = 45 ∨ x = 46 ∨ x = 47 ∨ (48 ≤ x ∧ x ≤ 57) ∨ (57 < x ∧ x < 65) ∨ (65 ≤ x ∧ x ≤ 90) ∨ (90 < x ∧ x < 95) ∨ x = 95 ∨ x = 96 ∨ (97 ≤ x ∧ x ≤ 122) ∨ 122 < x := by omega
set_option maxHeartbeats 2000000 in
theorem refIsId_any (s : ByteArray) (w : World) (hs : s.size ≤ 1000000) : Calls Tryd.prog 22 #[.string s] w fun e w' => e = .returned (.bool (idS s)) ∧ w = w' := by
  have Hr := Lib.hid (show idS s = (allB idB s && decide (1 ≤ s.size) && decide (s.size ≤ 64)) from rfl)
  have Hno := Lib.hid (fun k (hk : k < s.size) (h : idB (byteN s k : Nat) = false) => show idS s = false by rw [Hr.out, allB_false hk h]; rfl)
  have Hyes := Lib.hid (fun (h : AllTo idB s s.size) => show idS s = (decide (1 ≤ s.size) && decide (s.size ≤ 64)) by rw [Hr.out, allB_true h, Bool.true_and])
  generalize idS s = r at Hr Hno Hyes ⊢
  clear Hr
  go_enter Tryd.func22, Tryd.ntmps22
  go_wp2
  go_loop [3] (fun sv => ∃ k : Nat, k ≤ s.size ∧ sv = .int .i64 k ∧ Hid (AllTo idB s k)) (fun sv => s.size - (intOf sv).toNat)
  case atStart => exact ⟨0, Nat.zero_le _, rfl, AllTo.zero _ _⟩
  case round =>
    obtain ⟨k, hks, rfl, Hi⟩ := hrel
    by_cases hk : k < s.size
    · have hbn := byteN_eq hk
      have Hn := Lib.hid (fun h => Hi.out.succ h)
      have Hz := Lib.hid (Hno.out k hk)
      generalize byteN s k = x at Hn Hz hbn
      rcases id_ranges x with h | h | h | h | ⟨h, h2⟩ | ⟨h, h2⟩ | ⟨h, h2⟩ | ⟨h, h2⟩ | h | h | ⟨h, h2⟩ | h
      all_goals
        try subst h
        try have e45 : (((x : Nat) : Int) == 45) = false := by rw [beq_eq_false_iff_ne]; omega
        try have e46 : (((x : Nat) : Int) == 46) = false := by rw [beq_eq_false_iff_ne]; omega
        try have f57 : decide (((x : Nat) : Int) ≤ 57) = false := decide_eq_false (by omega)
        try have f90 : decide (((x : Nat) : Int) ≤ 90) = false := decide_eq_false (by omega)
        try have f122 : decide (((x : Nat) : Int) ≤ 122) = false := decide_eq_false (by omega)
        try have e95 : (((x : Nat) : Int) == 95) = false := by rw [beq_eq_false_iff_ne]; omega
        first
          | (have Hx := Lib.hid (Hz.out (by first | decide | (rw [idB_eq, Bool.eq_false_iff]; simp; omega)))
             go_wp2
             go_ret
             exact ⟨ret_bool (by rw [Hx.out]), rfl⟩)
          | (have Hx := Lib.hid (Hn.out (by first | decide | (rw [idB_eq]; simp; omega)))
             go_wp2
             go_round
             case rel => exact ⟨k + 1, by omega, by go_num, Hx⟩
             case measure => simp [intOf]; omega)
    · obtain rfl : k = s.size := by omega
      have Hz := Lib.hid (Hyes.out Hi.out)
      rcases Nat.lt_or_ge 0 s.size with h1 | h1
      all_goals
        go_wp2
        go_ret
        exact ⟨ret_bool (by rw [Hz.out, Bool.eq_iff_iff]; simp; omega), rfl⟩
set_option maxHeartbeats 2000000 in
theorem refMay_any (s : ByteArray) (w : World) (hs : s.size ≤ 1000000) : Calls Tryd.prog 44 #[.string s] w fun e w' => e = .returned (.bool (verS s)) ∧ w = w' := by
  have Hr := Lib.hid (show verS s = (allB verB s && decide (1 ≤ s.size) && decide (s.size ≤ 64)) from rfl)
  have Hno := Lib.hid (fun k (hk : k < s.size) (h : verB (byteN s k : Nat) = false) => show verS s = false by rw [Hr.out, allB_false hk h]; rfl)
  have Hyes := Lib.hid (fun (h : AllTo verB s s.size) => show verS s = (decide (1 ≤ s.size) && decide (s.size ≤ 64)) by rw [Hr.out, allB_true h, Bool.true_and])
  generalize verS s = r at Hr Hno Hyes ⊢
  clear Hr
  go_enter Tryd.func44, Tryd.ntmps44
  go_wp2
  go_loop [3] (fun sv => ∃ k : Nat, k ≤ s.size ∧ sv = .int .i64 k ∧ Hid (AllTo verB s k)) (fun sv => s.size - (intOf sv).toNat)
  case atStart => exact ⟨0, Nat.zero_le _, rfl, AllTo.zero _ _⟩
  case round =>
    obtain ⟨k, hks, rfl, Hi⟩ := hrel
    by_cases hk : k < s.size
    · have hbn := byteN_eq hk
      have Hn := Lib.hid (fun h => Hi.out.succ h)
      have Hz := Lib.hid (Hno.out k hk)
      generalize byteN s k = x at Hn Hz hbn
      rcases (show x < 43 ∨ x = 43 ∨ (43 < x ∧ x < 45) ∨ x = 45 ∨ x = 46 ∨ x = 47 ∨ (48 ≤ x ∧ x ≤ 57) ∨ (57 < x ∧ x < 65) ∨ (65 ≤ x ∧ x ≤ 90) ∨ (90 < x ∧ x < 95) ∨ x = 95 ∨ x = 96 ∨ (97 ≤ x ∧ x ≤ 122) ∨ 122 < x by omega) with h | h | ⟨h, h2⟩ | h | h | h | ⟨h, h2⟩ | ⟨h, h2⟩ | ⟨h, h2⟩ | ⟨h, h2⟩ | h | h | ⟨h, h2⟩ | h
      all_goals
        try subst h
        try have e43 : (((x : Nat) : Int) == 43) = false := by rw [beq_eq_false_iff_ne]; omega
        try have e45 : (((x : Nat) : Int) == 45) = false := by rw [beq_eq_false_iff_ne]; omega
        try have e46 : (((x : Nat) : Int) == 46) = false := by rw [beq_eq_false_iff_ne]; omega
        try have f57 : decide (((x : Nat) : Int) ≤ 57) = false := decide_eq_false (by omega)
        try have f90 : decide (((x : Nat) : Int) ≤ 90) = false := decide_eq_false (by omega)
        try have f122 : decide (((x : Nat) : Int) ≤ 122) = false := decide_eq_false (by omega)
        try have e95 : (((x : Nat) : Int) == 95) = false := by rw [beq_eq_false_iff_ne]; omega
        first
          | (have Hx := Lib.hid (Hz.out (by first | decide | (unfold verB digitB; rw [Bool.eq_false_iff]; simp; omega)))
             go_wp2
             go_ret
             exact ⟨ret_bool (by rw [Hx.out]), rfl⟩)
          | (have Hx := Lib.hid (Hn.out (by first | decide | (unfold verB digitB; simp; omega)))
             go_wp2
             go_round
             case rel => exact ⟨k + 1, by omega, by go_num, Hx⟩
             case measure => simp [intOf]; omega)
    · obtain rfl : k = s.size := by omega
      have Hz := Lib.hid (Hyes.out Hi.out)
      rcases Nat.lt_or_ge 0 s.size with h1 | h1
      all_goals
        go_wp2
        go_ret
        exact ⟨ret_bool (by rw [Hz.out, Bool.eq_iff_iff]; simp; omega), rfl⟩
end Go.Proofs.YtldhgdoeehnbjaaDoor
