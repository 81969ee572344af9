/- classes of bytes; ids. -/
import Derived.Test.YtldhgdoeehnbjaaDoorCoD
import Derived.Test.YtldhgdoeehnbjaaDoorPlain
import Derived.Deep.DeepCutAuto
import Derived.Laws.IdiomStrings
namespace Go.Proofs.YtldhgdoeehnbjaaDoor
open Go.RowKit
open C01

set_option maxHeartbeats 400000 in
theorem IsDigit_any (c : Int) (w : World) : Calls Tryd.prog 49 #[.int .u8 c] w fun e w' => e = .returned (.bool (digitB c)) ∧ w = w' := by
  by_cases h1 : 48 ≤ c <;> by_cases h2 : c ≤ 57
  all_goals
    have Hd := Lib.hid (show digitB c = _ from by simp only [digitB, h1, h2, decide_true, decide_false, Bool.and_true, Bool.and_false]; rfl)
    go_enter Tryd.func49, Tryd.ntmps49
    go_wp2
    go_ret
    exact ⟨ret_bool (by rw [Hd.out] <;> simp [h2]), rfl⟩
theorem firstB_ranges (c : Int) : (c < 65 ∨ (65 ≤ c ∧ c ≤ 90) ∨ (90 < c ∧ c < 95) ∨ c = 95 ∨ c = 96 ∨ (97 ≤ c ∧ c ≤ 122) ∨ 122 < c) := by omega
set_option maxHeartbeats 400000 in
theorem IsFirst_any (c : Int) (w : World) : Calls Tryd.prog 53 #[.int .u8 c] w fun e w' => e = .returned (.bool (firstB c)) ∧ w = w' := by
  rcases firstB_ranges c with h | ⟨h, h2⟩ | ⟨h, h2⟩ | rfl | rfl | ⟨h, h2⟩ | h
  all_goals
    go_enter Tryd.func53, Tryd.ntmps53
    go_wp2
    go_ret
    refine ⟨ret_bool ?_, rfl⟩
    first
      | rfl
      | (rw [Bool.eq_iff_iff]; simp only [firstB, Bool.or_eq_true, Bool.and_eq_true, decide_eq_true_eq, beq_iff_eq, true_iff]; omega)
      | (rw [Bool.eq_iff_iff]; simp [firstB]; omega)
set_option maxHeartbeats 400000 in
theorem IsName_any (c : Int) (w : World) : Calls Tryd.prog 48 #[.int .u8 c] w fun e w' => e = .returned (.bool (nameB c)) ∧ w = w' := by
  have h1 := fun w => IsFirst_any c w
  have h2 := fun w => IsDigit_any c w
  have Hn := Lib.hid (show nameB c = (firstB c || digitB c || c == 46 || c == 45 || c == 58) from rfl)
  obtain ⟨a, ha⟩ : ∃ a, a = firstB c := ⟨_, rfl⟩
  obtain ⟨b, hb⟩ : ∃ b, b = digitB c := ⟨_, rfl⟩
  rw [← ha] at h1 Hn
  rw [← hb] at h2 Hn
  have H1 := Lib.hid h1
  have H2 := Lib.hid h2
  clear ha hb h1 h2
  obtain ⟨q, hq⟩ : ∃ q, q = nameB c := ⟨_, rfl⟩
  rw [← hq] at Hn ⊢
  clear hq
  go_enter Tryd.func48, Tryd.ntmps48
  go_wp2_with (first
    | (go_at_call 53; refine (H1.out _).mono ?_; rintro e w1 ⟨rfl, rfl⟩)
    | (go_at_call 49; refine (H2.out _).mono ?_; rintro e w1 ⟨rfl, rfl⟩))
  all_goals
    go_ret
    refine ⟨ret_bool ?_, rfl⟩
    rw [Hn.out]
    first | rfl | (simp_all; done) | (simp [*]; done)
/-- The byte at a place. -/
def byteN (s : ByteArray) (k : Nat) : Nat := (s.data.toList.getD k 0).toNat
theorem byteN_eq {s : ByteArray} {k : Nat} (h : k < s.size) : s[k].toNat = byteN s k := by
  have h' : k < s.data.toList.length := by rw [Array.length_toList]; exact h
  unfold byteN List.getD
  rw [List.getElem?_eq_getElem h']
  rfl
theorem byteN_lt (s : ByteArray) (k : Nat) : byteN s k ≤ 255 := by unfold byteN; have := (s.data.toList.getD k 0).toNat_lt; omega

theorem allB_false {p : Int → Bool} {s : ByteArray} {k : Nat} (hk : k < s.size) (h : p (byteN s k : Nat) = false) : allB p s = false := by
  have h' : k < s.data.toList.length := by rw [Array.length_toList]; exact hk
  unfold allB
  rw [List.all_eq_false]
  refine ⟨_, List.getElem_mem h', ?_⟩
  unfold byteN at h
  rw [List.getD_eq_getElem?_getD, List.getElem?_eq_getElem h', Option.getD_some] at h
  rw [h]; simp
theorem allB_true {p : Int → Bool} {s : ByteArray} (h : ∀ k, k < s.size → p (byteN s k : Nat) = true) : allB p s = true := by
  unfold allB
  rw [List.all_eq_true]
  intro x hx
  obtain ⟨k, hk, rfl⟩ := List.getElem_of_mem hx
  have := h k (by rw [Array.length_toList] at hk; exact hk)
  unfold byteN at this
  rwa [List.getD_eq_getElem?_getD, List.getElem?_eq_getElem hk, Option.getD_some] at this
/-- the first bytes are all so -/
def AllTo (p : Int → Bool) (s : ByteArray) (n : Nat) : Prop := ∀ k, k < n → p (byteN s k : Nat) = true
theorem AllTo.zero (p : Int → Bool) (s : ByteArray) : AllTo p s 0 := fun _ hk => absurd hk (Nat.not_lt_zero _)
theorem AllTo.succ {p : Int → Bool} {s : ByteArray} {n : Nat} (h : AllTo p s n) (hx : p (byteN s n : Nat) = true) : AllTo p s (n + 1) := fun k hk => by
  rcases Nat.lt_or_ge k n with h' | h'
  · exact h k h'
  · rw [show k = n by omega]; exact hx
set_option maxHeartbeats 400000 in
theorem isByte_any (c : Int) (w : World) : Calls Tryd.prog 42 #[.int .u8 c] w fun e w' => e = .returned (.bool (idB c)) ∧ w = w' := by
  have H1 := Lib.hid (fun w => IsName_any c w)
  have Hd := Lib.hid (show idB c = (nameB c && (c != 58)) from rfl)
  generalize idB c = b at Hd ⊢
  generalize nameB c = n at H1 Hd
  cases n
  all_goals
    go_enter Tryd.func42, Tryd.ntmps42
    go_wp2_with (go_at_call 48; refine (H1.out _).mono ?_; rintro e w1 ⟨rfl, rfl⟩)
    go_ret
    exact ⟨ret_bool (by rw [Hd.out] <;> simp), rfl⟩
theorem bytes_start (w : World) (s : ByteArray) (cap : Nat) (t : TypeId) : Below w.heap.size w (w.drew.alloc (.cells (bytesRow s cap) t ((bytesRow s cap).size, (bytesRow s cap).size + 1))) ∧ ∀ k, k < s.size → (w.drew.alloc (.cells (bytesRow s cap) t ((bytesRow s cap).size, (bytesRow s cap).size + 1))).cell? ⟨w.heap.size, k, none⟩ = some (.int .u8 (byteN s k : Nat)) := by
  refine ⟨(Below.refl _ w).drew.alloc (Nat.le_refl _) _, fun k hk => ?_⟩
  have h : (w.drew.alloc (.cells (bytesRow s cap) t ((bytesRow s cap).size, (bytesRow s cap).size + 1))).heap[w.heap.size]? = some (.cells (bytesRow s cap) t ((bytesRow s cap).size, (bytesRow s cap).size + 1)) := by
    show (w.drew.heap.push _)[w.drew.heap.size]? = _
    exact Array.getElem?_push_size
  rw [cell_of_row _ _ _ _ _ _ h, bytesRow_at s cap k hk, ← byteN_eq hk]
  rfl
set_option maxHeartbeats 1000000 in
theorem IsId_any (s : ByteArray) (w : World) (hs : s.size ≤ 1000000) : Calls Tryd.prog 23 #[.string s] w fun e w' => e = .returned (.bool (idS s)) ∧ Below w.heap.size w w' := by
  have hcv := run_bytes_of_string (P := Tryd.prog) w 9 62 5 s Tryd.underlying9 Tryd.underlying62 Tryd.underlying5
  obtain ⟨HB, HC⟩ := bytes_start w s (grownCap w s.size 0 5) 5
  have HB := Lib.hid HB
  have HC := Lib.hid HC
  generalize grownCap w s.size 0 5 = cap at hcv HB HC
  generalize (w.drew.alloc (.cells (bytesRow s cap) 5 ((bytesRow s cap).size, (bytesRow s cap).size + 1))) = w1 at hcv HB HC
  generalize hb : w.heap.size = b at hcv HC HB ⊢
  have Hb := Lib.hid hb
  clear hb
  have Hr := Lib.hid (show idS s = (allB idB s && decide (1 ≤ s.size) && decide (s.size ≤ 64)) from rfl)
  have Hno := Lib.hid (fun k (hk : k < s.size) (h : idB (byteN s k : Nat) = false) => show idS s = false by rw [Hr.out, allB_false hk h]; rfl)
  have Hyes := Lib.hid (fun (h : AllTo idB s s.size) => show idS s = (decide (1 ≤ s.size) && decide (s.size ≤ 64)) by rw [Hr.out, allB_true h, Bool.true_and])
  generalize idS s = r at Hr Hno Hyes ⊢
  clear Hr
  go_enter Tryd.func23, Tryd.ntmps23
  go_wp2
  clear hcv
  go_loop [8] (fun sv => ∃ k : Nat, k ≤ s.size ∧ sv = .int .i64 k ∧ Hid (AllTo idB s k)) (fun sv => s.size - (intOf sv).toNat)
  case atStart => exact ⟨0, Nat.zero_le _, rfl, AllTo.zero _ _⟩
  case round =>
    obtain ⟨k, hks, rfl, Hi⟩ := hrel
    by_cases hk : k < s.size
    · have hc := HC.out k hk
      have H1 := Lib.hid (fun w => isByte_any (byteN s k : Nat) w)
      cases hx : idB (byteN s k : Nat) with
      | true =>
        have Hn := Lib.hid (Hi.out.succ hx)
        rw [hx] at H1
        clear hx
        go_wp2_with (go_at_call 42; with_reducible refine (H1.out _).mono ?_; rintro e w2 ⟨rfl, rfl⟩)
        go_round
        case rel => exact ⟨k + 1, by omega, by go_num, Hn⟩
        case measure => simp [intOf]; omega
      | false =>
        have Hz := Lib.hid (Hno.out k hk hx)
        rw [hx] at H1
        clear hx
        go_wp2_with (go_at_call 42; with_reducible refine (H1.out _).mono ?_; rintro e w2 ⟨rfl, rfl⟩)
        go_ret
        exact ⟨ret_bool (by rw [Hz.out]), HB.out⟩
    · obtain rfl : k = s.size := by omega
      have Hz := Lib.hid (Hyes.out Hi.out)
      rcases Nat.lt_or_ge s.size 1 with h1 | h1
      case' inr => rcases Nat.lt_or_ge 64 s.size with h2 | h2
      all_goals
        go_wp2
        go_ret
        exact ⟨ret_bool (by rw [Hz.out, Bool.eq_iff_iff]; simp; omega), HB.out⟩
end Go.Proofs.YtldhgdoeehnbjaaDoor
