/- chars.number. -/
import Derived.Test.YtnkbeaipgadphaaChD3
namespace Go.Proofs.Ytnkbeaipgadphaa
open Go.RowKit
open C01

theorem quiet_add_left {P : Program} {f : FuncId} {args : Array Value} {w : World} {a n : Nat} {v : Value}
    (h : Calls P f args (w.drewN (a + n)) fun e w' => e = .returned v ∧ w.drewN (a + n) = w') :
    Calls P f args (w.drewN (a + n)) fun e w'' => e = .returned v ∧ ∃ m, w'' = w.drewN (a + m) :=
  h.mono fun _ _ ⟨he, hm⟩ => ⟨he, n, hm.symm⟩
theorem quiet_left {P : Program} {f : FuncId} {args : Array Value} {w : World} {n : Nat} {v : Value}
    (h : Calls P f args (w.drewN n) fun e w' => e = .returned v ∧ w.drewN n = w') : Calls P f args (w.drewN n) fun e w'' => e = .returned v ∧ ∃ m, w'' = w.drewN m :=
  h.mono fun _ _ ⟨he, hm⟩ => ⟨he, n, hm.symm⟩
def numberR (s : ByteArray) (ahead : Int) : ByteArray × Int × Int := if Lib.hasPrefix s.data.toList [120] then numR (s.extract 1 s.size) (ahead + 1) 16 else numR s ahead 10
set_option maxHeartbeats 1000000 in
theorem number_any (s : ByteArray) (ahead : Int) (w : World) (hs : s.size ≤ 100000) (ha : 0 ≤ ahead ∧ ahead ≤ 10) : Calls Try.prog 35 #[.string s, .int .i64 ahead] w fun e w' => e = .returned (.tuple #[.string (numberR s ahead).1, .int .i64 (numberR s ahead).2.1, .int .i64 (numberR s ahead).2.2]) ∧ Below w.heap.size w w' := by
  have Hp := Lib.hid (fun w => HasPrefix_any s ⟨#[120]⟩ w)
  cases hp : Lib.hasPrefix s.data.toList [120] with
  | true =>
    have Hr := Lib.hid (show numberR s ahead = numR (s.extract 1 s.size) (ahead + 1) 16 by unfold numberR; rw [hp]; rfl)
    have hpt : Lib.hasPrefix s.data.toList (⟨#[120]⟩ : ByteArray).data.toList = true := hp
    rw [hpt] at Hp
    have h1 : 1 ≤ s.size := by
      rcases Nat.lt_or_ge 0 s.size with h | h
      · exact h
      · have : s.data.toList = [] := by apply List.eq_nil_of_length_eq_zero; rw [Array.length_toList]; exact Nat.le_zero.1 h
        rw [this] at hp; cases hp
    clear hp hpt
    generalize numberR s ahead = R at Hr ⊢
    go_enter Try.func35, Try.ntmps35
    go_wp2_with (go_at_call 34; refine (Hp.out _).mono ?_; rintro e w1 ⟨rfl, rfl⟩)
    obtain ⟨t, ht⟩ : ∃ t, t = s.extract 1 s.size := ⟨_, rfl⟩
    rw [← ht] at Hr ⊢
    have hts : t.size ≤ 100000 := by rw [ht, ByteArray.size_extract]; omega
    clear ht
    obtain ⟨w3, hw3⟩ : ∃ w3, w3 = w.alloc (.cells #[.int .i64 16] 3) := ⟨_, rfl⟩
    obtain ⟨b, hb⟩ : ∃ b, b = w.heap.size := ⟨_, rfl⟩
    have hc : w3.cell? ⟨b, 0, none⟩ = some (.int .i64 16) := by rw [hw3, hb]; exact cell_of_row _ _ _ _ _ (0, 0) (heap_alloc_new w _)
    have HL := Lib.hid (show Below w.heap.size w w3 by rw [hw3]; exact below_alloc _ _)
    rw [← hw3, show (w.heap.size : Nat) = b from hb.symm]
    clear hw3 hb
    have Hspan := Lib.hid (span1_any 47 (.pointer (some ⟨b, 0, none⟩)) (digB 16) t w3 (by omega) (fun args w => by kernel_rfl) (fun x hx => number1_any (x : Nat) 16 b w3 (by omega) (by omega) hc))
    refine Hspan.out.mono ?_
    rintro e w4 ⟨rfl, rfl⟩
    have hnle : spanN (digB 16) t.data.toList ≤ t.size := by rw [show t.size = t.data.toList.length from (Array.length_toList).symm]; exact spanN_le _ _
    have Hall := Lib.hid (show ∀ i, i < spanN (digB 16) t.data.toList → digB 16 (byteN t i : Nat) = true from fun i hi => spanN_all hi)
    unfold numR at Hr
    generalize spanN (digB 16) t.data.toList = n at Hr hnle Hall ⊢
    clear Hspan
    rcases Nat.lt_or_ge 8 n with h8 | h8
    · have Hr := Lib.hid (Hr.out.trans (if_pos h8))
      go_wp2
      go_ret3
      exact ⟨by rw [Hr.out]; rfl, HL.out⟩
    have Hr := Lib.hid (Hr.out.trans (if_neg (by omega)))
    rcases Classical.em (n = t.size) with hz | hz
    · have Hr := Lib.hid (Hr.out.trans (if_pos hz))
      subst hz
      go_wp2
      go_ret3
      exact ⟨by rw [Hr.out]; rfl, HL.out⟩
    have Hr := Lib.hid (Hr.out.trans (if_neg hz))
    rcases Classical.em (n = 0) with h0 | h0
    · have Hr := Lib.hid (Hr.out.trans (if_pos (.inl h0)))
      subst h0
      go_wp2
      go_ret3
      exact ⟨by rw [Hr.out]; rfl, HL.out⟩
    have hlt : n < t.size := by omega
    have hbn := byteN_eq hlt
    rcases Classical.em (byteN t n = 59) with h59 | h59
    · have Hr := Lib.hid (Hr.out.trans (if_neg (by omega)))
      rw [h59] at hbn
      have h0b : (((n : Nat) : Int) == 0) = false := beq_eq_false_iff_ne.2 (by omega)
      go_wp2
      have Hc := Lib.hid hc
      clear hc h0 h59 h0b
      go_loopw [9, 40] (fun kv sv wr => ∃ i : Nat, i ≤ n ∧ sv = .int .i64 i ∧ kv = .int .i64 (numK 16 t i) ∧ Hid (wr.cell? ⟨b, 0, none⟩ = some (.int .i64 16)) ∧ Hid (Below w.heap.size w wr)) (fun _ sv _ => n - (intOf sv).toNat)
      case atStart => exact ⟨0, Nat.zero_le _, rfl, rfl, Hc, HL⟩
      case round =>
        clear hbn HL Hc
        obtain ⟨i, hile, rfl, rfl, Hc, HL⟩ := hrel
        by_cases hin : i < n
        · have hc := Hc.out
          have hil : i < t.size := by omega
          have hbi := byteN_eq hil
          have hb255 := byteN_lt t i
          obtain ⟨hk0, hk1⟩ := numK_le (base := 16) (s := t) (n := i) (by omega) (by omega) (fun q hq => Hall.out q (by omega))
          obtain ⟨hk2, hk3⟩ := numK_le (base := 16) (s := t) (n := i + 1) (by omega) (by omega) (fun q hq => Hall.out q (by omega))
          have Hs := Lib.hid (show numK 16 t (i + 1) = numK 16 t i * 16 + digI (byteN t i : Nat) 16 from rfl)
          have Hd := Lib.hid (fun w => digit_any (byteN t i : Nat) 16 w (by omega) (by omega))
          have hdl := digI_lt (byteN t i : Nat) 16 (by omega)
          have hd0 : 0 ≤ digI (byteN t i : Nat) 16 := by have := Hall.out i hin; unfold digB at this; simpa using this
          rw [Hs.out] at hk2 hk3
          generalize digI (byteN t i : Nat) 16 = g at Hs Hd hdl hd0 hk2 hk3
          generalize numK 16 t i = k at Hs hk0 hk1 hk2 hk3 ⊢
          have hw1 : IntKind.i64.wrap (k * 16) = k * 16 := by rw [IntKind.wrap_i64]; omega
          have hw2 : IntKind.i64.wrap (k * 16 + g) = k * 16 + g := by rw [IntKind.wrap_i64]; omega
          go_wp2
          go_quiet ((go_at_call 48; first | exact quiet_add_left (Hd.out _) | exact quiet_left (Hd.out _)))
          go_wp2
          go_roundw
          case rel => exact ⟨i + 1, by omega, by go_num, by rw [Hs.out], Hc, Lib.hid ⟨HL.out.os, HL.out.tape, HL.out.output, HL.out.size, HL.out.block⟩⟩
          case measure => simp [intOf]; omega
        · obtain rfl : i = n := by omega
          obtain ⟨hk0, hk1⟩ := numK_le (base := 16) (s := t) (n := i) (by omega) (by omega) (fun q hq => Hall.out q (by omega))
          generalize numK 16 t i = k at Hr hk0 hk1 ⊢
          have Hlet := Lib.hid (Letter_any k wr (by omega))
          cases hl : letterOk k with
          | true =>
            rw [hl] at Hlet Hr
            have Hr := Lib.hid (Hr.out.trans (if_pos rfl))
            clear hl
            go_wp2_with (go_at_call 13; refine Hlet.out.mono ?_; rintro e w5 ⟨rfl, hb5⟩; have HL5 := Lib.hid hb5; clear hb5)
            go_ret3
            exact ⟨by rw [Hr.out]; rfl, HL.out.trans (HL5.out.mono HL.out.size)⟩
          | false =>
            rw [hl] at Hlet Hr
            have Hr := Lib.hid (Hr.out.trans (if_neg (by simp)))
            clear hl
            go_wp2_with (go_at_call 13; refine Hlet.out.mono ?_; rintro e w5 ⟨rfl, hb5⟩; have HL5 := Lib.hid hb5; clear hb5)
            go_ret3
            exact ⟨by rw [Hr.out]; rfl, HL.out.trans (HL5.out.mono HL.out.size)⟩
    · have Hr := Lib.hid (Hr.out.trans (if_pos (.inr h59)))
      have h0b : (((n : Nat) : Int) == 0) = false := beq_eq_false_iff_ne.2 (by omega)
      have hne : (((byteN t n : Nat) : Int) != 59) = true := bne_iff_ne.2 (by omega)
      go_wp2
      go_ret3
      exact ⟨by rw [Hr.out]; rfl, HL.out⟩
  | false =>
    have Hr := Lib.hid (show numberR s ahead = numR s ahead 10 by unfold numberR; rw [hp]; rfl)
    have hpt : Lib.hasPrefix s.data.toList (⟨#[120]⟩ : ByteArray).data.toList = false := hp
    rw [hpt] at Hp
    clear hp hpt
    generalize numberR s ahead = R at Hr ⊢
    go_enter Try.func35, Try.ntmps35
    go_wp2_with (go_at_call 34; refine (Hp.out _).mono ?_; rintro e w1 ⟨rfl, rfl⟩)
    obtain ⟨w3, hw3⟩ : ∃ w3, w3 = w.alloc (.cells #[.int .i64 10] 3) := ⟨_, rfl⟩
    obtain ⟨b, hb⟩ : ∃ b, b = w.heap.size := ⟨_, rfl⟩
    have hc : w3.cell? ⟨b, 0, none⟩ = some (.int .i64 10) := by rw [hw3, hb]; exact cell_of_row _ _ _ _ _ (0, 0) (heap_alloc_new w _)
    have HL := Lib.hid (show Below w.heap.size w w3 by rw [hw3]; exact below_alloc _ _)
    rw [← hw3, show (w.heap.size : Nat) = b from hb.symm]
    clear hw3 hb
    have Hspan := Lib.hid (span1_any 47 (.pointer (some ⟨b, 0, none⟩)) (digB 10) s w3 (by omega) (fun args w => by kernel_rfl) (fun x hx => number1_any (x : Nat) 10 b w3 (by omega) (by omega) hc))
    refine Hspan.out.mono ?_
    rintro e w4 ⟨rfl, rfl⟩
    have hnle : spanN (digB 10) s.data.toList ≤ s.size := by rw [show s.size = s.data.toList.length from (Array.length_toList).symm]; exact spanN_le _ _
    have Hall := Lib.hid (show ∀ i, i < spanN (digB 10) s.data.toList → digB 10 (byteN s i : Nat) = true from fun i hi => spanN_all hi)
    unfold numR at Hr
    generalize spanN (digB 10) s.data.toList = n at Hr hnle Hall ⊢
    clear Hspan
    rcases Nat.lt_or_ge 8 n with h8 | h8
    · have Hr := Lib.hid (Hr.out.trans (if_pos h8))
      go_wp2
      go_ret3
      exact ⟨by rw [Hr.out]; rfl, HL.out⟩
    have Hr := Lib.hid (Hr.out.trans (if_neg (by omega)))
    rcases Classical.em (n = s.size) with hz | hz
    · have Hr := Lib.hid (Hr.out.trans (if_pos hz))
      subst hz
      go_wp2
      go_ret3
      exact ⟨by rw [Hr.out]; rfl, HL.out⟩
    have Hr := Lib.hid (Hr.out.trans (if_neg hz))
    rcases Classical.em (n = 0) with h0 | h0
    · have Hr := Lib.hid (Hr.out.trans (if_pos (.inl h0)))
      subst h0
      go_wp2
      go_ret3
      exact ⟨by rw [Hr.out]; rfl, HL.out⟩
    have hlt : n < s.size := by omega
    have hbn := byteN_eq hlt
    rcases Classical.em (byteN s n = 59) with h59 | h59
    · have Hr := Lib.hid (Hr.out.trans (if_neg (by omega)))
      rw [h59] at hbn
      have h0b : (((n : Nat) : Int) == 0) = false := beq_eq_false_iff_ne.2 (by omega)
      go_wp2
      have Hc := Lib.hid hc
      clear hc h0 h59 h0b
      go_loopw [9, 40] (fun kv sv wr => ∃ i : Nat, i ≤ n ∧ sv = .int .i64 i ∧ kv = .int .i64 (numK 10 s i) ∧ Hid (wr.cell? ⟨b, 0, none⟩ = some (.int .i64 10)) ∧ Hid (Below w.heap.size w wr)) (fun _ sv _ => n - (intOf sv).toNat)
      case atStart => exact ⟨0, Nat.zero_le _, rfl, rfl, Hc, HL⟩
      case round =>
        clear hbn HL Hc
        obtain ⟨i, hile, rfl, rfl, Hc, HL⟩ := hrel
        by_cases hin : i < n
        · have hc := Hc.out
          have hil : i < s.size := by omega
          have hbi := byteN_eq hil
          have hb255 := byteN_lt s i
          obtain ⟨hk0, hk1⟩ := numK_le (base := 10) (s := s) (n := i) (by omega) (by omega) (fun q hq => Hall.out q (by omega))
          obtain ⟨hk2, hk3⟩ := numK_le (base := 10) (s := s) (n := i + 1) (by omega) (by omega) (fun q hq => Hall.out q (by omega))
          have Hs := Lib.hid (show numK 10 s (i + 1) = numK 10 s i * 10 + digI (byteN s i : Nat) 10 from rfl)
          have Hd := Lib.hid (fun w => digit_any (byteN s i : Nat) 10 w (by omega) (by omega))
          have hdl := digI_lt (byteN s i : Nat) 10 (by omega)
          have hd0 : 0 ≤ digI (byteN s i : Nat) 10 := by have := Hall.out i hin; unfold digB at this; simpa using this
          rw [Hs.out] at hk2 hk3
          generalize digI (byteN s i : Nat) 10 = g at Hs Hd hdl hd0 hk2 hk3
          generalize numK 10 s i = k at Hs hk0 hk1 hk2 hk3 ⊢
          have hw1 : IntKind.i64.wrap (k * 10) = k * 10 := by rw [IntKind.wrap_i64]; omega
          have hw2 : IntKind.i64.wrap (k * 10 + g) = k * 10 + g := by rw [IntKind.wrap_i64]; omega
          go_wp2
          go_quiet ((go_at_call 48; first | exact quiet_add_left (Hd.out _) | exact quiet_left (Hd.out _)))
          go_wp2
          go_roundw
          case rel => exact ⟨i + 1, by omega, by go_num, by rw [Hs.out], Hc, Lib.hid ⟨HL.out.os, HL.out.tape, HL.out.output, HL.out.size, HL.out.block⟩⟩
          case measure => simp [intOf]; omega
        · obtain rfl : i = n := by omega
          obtain ⟨hk0, hk1⟩ := numK_le (base := 10) (s := s) (n := i) (by omega) (by omega) (fun q hq => Hall.out q (by omega))
          generalize numK 10 s i = k at Hr hk0 hk1 ⊢
          have Hlet := Lib.hid (Letter_any k wr (by omega))
          cases hl : letterOk k with
          | true =>
            rw [hl] at Hlet Hr
            have Hr := Lib.hid (Hr.out.trans (if_pos rfl))
            clear hl
            go_wp2_with (go_at_call 13; refine Hlet.out.mono ?_; rintro e w5 ⟨rfl, hb5⟩; have HL5 := Lib.hid hb5; clear hb5)
            go_ret3
            exact ⟨by rw [Hr.out]; rfl, HL.out.trans (HL5.out.mono HL.out.size)⟩
          | false =>
            rw [hl] at Hlet Hr
            have Hr := Lib.hid (Hr.out.trans (if_neg (by simp)))
            clear hl
            go_wp2_with (go_at_call 13; refine Hlet.out.mono ?_; rintro e w5 ⟨rfl, hb5⟩; have HL5 := Lib.hid hb5; clear hb5)
            go_ret3
            exact ⟨by rw [Hr.out]; rfl, HL.out.trans (HL5.out.mono HL.out.size)⟩
    · have Hr := Lib.hid (Hr.out.trans (if_pos (.inr h59)))
      have h0b : (((n : Nat) : Int) == 0) = false := beq_eq_false_iff_ne.2 (by omega)
      have hne : (((byteN s n : Nat) : Int) != 59) = true := bne_iff_ne.2 (by omega)
      go_wp2
      go_ret3
      exact ⟨by rw [Hr.out]; rfl, HL.out⟩
end Go.Proofs.Ytnkbeaipgadphaa
