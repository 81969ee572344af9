/- the words of scopes. -/
import Derived.Test.YtldhgdoeehnbjaaDoorCoW7
import Derived.Test.YtldhgdoeehnbjaaDoorCoW1
namespace Go.Proofs.YtldhgdoeehnbjaaDoor
open Go.RowKit

def wordsC : List ByteArray := [⟨#[]⟩, ⟨#[99, 111, 109, 112, 105, 108, 101]⟩, ⟨#[114, 117, 110, 116, 105, 109, 101]⟩, ⟨#[112, 114, 111, 118, 105, 100, 101, 100]⟩, ⟨#[115, 121, 115, 116, 101, 109]⟩, ⟨#[116, 101, 115, 116]⟩, ⟨#[105, 109, 112, 111, 114, 116]⟩]
def wordC (k : Nat) : ByteArray := wordsC.getD k ⟨#[]⟩
def wordS (s : Int) : ByteArray := if 0 ≤ s ∧ s ≤ 6 then wordC s.toNat else ⟨#[]⟩
def scopeF (word : ByteArray) (k : Nat) : Option Nat := if k = 0 then none else if wordC k = word then some k else none
def scopeN (word : ByteArray) : Nat := (firstN (scopeF word) 7).getD 0
def wantN (word : ByteArray) : Nat → Nat
  | 0 => 0
  | j + 1 => if wordC (j + 1) = word then j + 1 else wantN word j
theorem wordS_nat (k : Nat) (h : k ≤ 6) : wordS (k : Int) = wordC k := by unfold wordS; rw [if_pos (by omega)]; congr 1
theorem wordS_out {s : Int} (h : s < 1 ∨ 6 < s) : wordS s = ⟨#[]⟩ := by
  unfold wordS
  split
  · have : s = 0 := by omega
    subst this; rfl
  · rfl
theorem scope_want (word : ByteArray) : wantN word 6 = scopeN word := by
  by_cases h1 : word = wordC 1
  · subst h1; decide +kernel
  by_cases h2 : word = wordC 2
  · subst h2; decide +kernel
  by_cases h3 : word = wordC 3
  · subst h3; decide +kernel
  by_cases h4 : word = wordC 4
  · subst h4; decide +kernel
  by_cases h5 : word = wordC 5
  · subst h5; decide +kernel
  by_cases h6 : word = wordC 6
  · subst h6; decide +kernel
  have hw : ∀ k, k < 7 → k ≠ 0 → wordC k ≠ word := by
    intro k hk h0 e
    match k, hk with
    | 0, _ => exact h0 rfl
    | 1, _ => exact h1 e.symm
    | 2, _ => exact h2 e.symm
    | 3, _ => exact h3 e.symm
    | 4, _ => exact h4 e.symm
    | 5, _ => exact h5 e.symm
    | 6, _ => exact h6 e.symm
  have a : scopeN word = 0 := by
    unfold scopeN
    rw [firstN_all]
    · rfl
    · intro k hk
      unfold scopeF
      by_cases h0 : k = 0
      · rw [if_pos h0]
      · rw [if_neg h0, if_neg (hw k hk h0)]
  have b : ∀ j, j ≤ 6 → wantN word j = 0 := by
    intro j
    induction j with
    | zero => intro _; rfl
    | succ j ih =>
      intro hj
      unfold wantN
      rw [if_neg (hw (j + 1) (by omega) (by omega)), ih (by omega)]
  rw [a, b 6 (Nat.le_refl _)]
theorem scopeN_le (word : ByteArray) : scopeN word ≤ 6 := by
  unfold scopeN
  cases h : firstN (scopeF word) 7 with
  | none => exact Nat.zero_le _
  | some x =>
    obtain ⟨k, hk, h1, _⟩ := firstN_some h
    unfold scopeF at h1
    repeat' split at h1
    all_goals first
      | (cases h1; done)
      | (injection h1 with h1; show x ≤ 6; omega)
theorem scope_word (s : Int) : (scopeN (wordS s) : Int) = if 1 ≤ s ∧ s ≤ 6 then s else 0 := by
  rcases (show s < 1 ∨ s = 1 ∨ s = 2 ∨ s = 3 ∨ s = 4 ∨ s = 5 ∨ s = 6 ∨ 6 < s by omega) with h | rfl | rfl | rfl | rfl | rfl | rfl | h
  · rw [wordS_out (.inl h), if_neg (by omega)]; decide +kernel
  · decide +kernel
  · decide +kernel
  · decide +kernel
  · decide +kernel
  · decide +kernel
  · decide +kernel
  · rw [wordS_out (.inr h), if_neg (by omega)]; decide +kernel
theorem Word_any (s : Int) (w : World) : Calls Tryd.prog 32 #[.int .i64 s] w fun e w' => e = .returned (.string (wordS s)) ∧ w = w' := by
  rcases (show s = 1 ∨ s = 2 ∨ s = 3 ∨ s = 4 ∨ s = 5 ∨ s = 6 ∨ (s < 1 ∨ 6 < s) by omega) with rfl | rfl | rfl | rfl | rfl | rfl | h
  case inr.inr.inr.inr.inr.inr =>
    have e1 : (s == 1) = false := by rw [beq_eq_false_iff_ne]; omega
    have e2 : (s == 2) = false := by rw [beq_eq_false_iff_ne]; omega
    have e3 : (s == 3) = false := by rw [beq_eq_false_iff_ne]; omega
    have e4 : (s == 4) = false := by rw [beq_eq_false_iff_ne]; omega
    have e5 : (s == 5) = false := by rw [beq_eq_false_iff_ne]; omega
    have e6 : (s == 6) = false := by rw [beq_eq_false_iff_ne]; omega
    rw [wordS_out h]
    clear h
    go_enter Tryd.func32, Tryd.ntmps32
    go_wp2
    go_ret
    exact ⟨rfl, rfl⟩
  all_goals
    go_enter Tryd.func32, Tryd.ntmps32
    go_wp2
    go_ret
    exact ⟨rfl, rfl⟩
set_option maxHeartbeats 1000000 in
theorem refWord_any (s : Int) (w : World) : Calls Tryd.prog 31 #[.int .i64 s] w fun e w' => e = .returned (.string (wordS s)) ∧ Below w.heap.size w w' := by
  rcases (show s = 0 ∨ s = 1 ∨ s = 2 ∨ s = 3 ∨ s = 4 ∨ s = 5 ∨ s = 6 ∨ s < 0 ∨ 6 < s by omega) with rfl | rfl | rfl | rfl | rfl | rfl | rfl | h | h
  case inr.inr.inr.inr.inr.inr.inr.inl =>
    rw [wordS_out (by omega)]
    go_enter Tryd.func31, Tryd.ntmps31
    go_wp2
    go_ret
    exact ⟨rfl, below_alloc _ _⟩
  case inr.inr.inr.inr.inr.inr.inr.inr =>
    rw [wordS_out (by omega)]
    go_enter Tryd.func31, Tryd.ntmps31
    go_wp2
    go_ret
    exact ⟨rfl, below_alloc _ _⟩
  all_goals
    go_enter Tryd.func31, Tryd.ntmps31
    go_wp2
    go_ret
    exact ⟨rfl, below_alloc _ _⟩
theorem beq_text {a b : ByteArray} (h : a = b) : (a.toList == b.toList) = true := by rw [h]; simp
theorem bne_text {a b : ByteArray} (h : ¬ a = b) : (a.toList == b.toList) = false := by
  rw [beq_eq_false_iff_ne, ByteArray.toList_eq, ByteArray.toList_eq]
  intro e
  exact h (by cases a; cases b; simp_all)
set_option maxHeartbeats 1000000 in
theorem Scope_any (word : ByteArray) (w : World) : Calls Tryd.prog 30 #[.string word] w fun e w' => e = .returned (.tuple #[.int .i64 (scopeN word : Nat), .bool (decide (0 < scopeN word))]) ∧ w = w' := by
  have Hhit := Lib.hid (fun k (x : Nat) (hk : k < 7) (h0 : firstN (scopeF word) k = none) (h : scopeF word k = some x) => show scopeN word = x by unfold scopeN; rw [firstN_hit h0 h hk]; rfl)
  have Hnone := Lib.hid (fun (h0 : firstN (scopeF word) 7 = none) => show scopeN word = 0 by unfold scopeN; rw [h0]; rfl)
  go_enter Tryd.func30, Tryd.ntmps30
  go_wp2
  go_loop [5] (fun sv => ∃ k : Nat, k ≤ 7 ∧ sv = .int .i64 k ∧ Hid (firstN (scopeF word) k = none)) (fun sv => 7 - (intOf sv).toNat)
  case atStart => exact ⟨0, Nat.zero_le _, rfl, Lib.hid rfl⟩
  case round =>
    obtain ⟨k, hk7, rfl, HN⟩ := hrel
    by_cases hk : k < 7
    · rcases Nat.eq_zero_or_pos k with h0 | h0
      · subst h0
        go_wp2
        go_round
        case rel => exact ⟨1, by omega, rfl, Lib.hid rfl⟩
        case measure => simp [intOf]
      · have HW := Lib.hid (fun w => Word_any (k : Nat) w)
        rw [wordS_nat k (by omega)] at HW
        have e0 : (((k : Nat) : Int) == 0) = false := beq_eq_false_iff_ne.2 (by omega)
        have g0 : (((k : Nat) : Int) != 0) = true := by rw [bne, e0]; rfl
        have Hf := Lib.hid (show scopeF word k = if wordC k = word then some k else none by unfold scopeF; rw [if_neg (by omega)])
        rcases Classical.em (wordC k = word) with h | h
        · have Hs := Lib.hid (Hhit.out k k hk HN.out (Hf.out.trans (if_pos h)))
          have he := beq_text h
          generalize wordC k = x at HW he
          clear h Hf
          go_wp2_with (go_at_call 32; with_reducible refine (HW.out _).mono ?_; rintro e w1 ⟨rfl, rfl⟩)
          go_ret2
          exact ⟨by rw [Hs.out, decide_eq_true h0]; rfl, rfl⟩
        · have Hn := Lib.hid (firstN_go HN.out (Hf.out.trans (if_neg h)))
          have he := bne_text h
          generalize wordC k = x at HW he
          clear h Hf
          go_wp2_with (go_at_call 32; with_reducible refine (HW.out _).mono ?_; rintro e w1 ⟨rfl, rfl⟩)
          go_round
          case rel => exact ⟨k + 1, by omega, by go_num, Hn⟩
          case measure => simp [intOf]; omega
    · obtain rfl : k = 7 := by omega
      have Hs := Lib.hid (Hnone.out HN.out)
      go_wp2
      go_ret2
      exact ⟨by rw [Hs.out]; rfl, rfl⟩
end Go.Proofs.YtldhgdoeehnbjaaDoor
