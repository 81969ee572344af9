/- pomaceref01.Ref. -/
import Derived.Test.YtnkbeaipgadphaaChW17
import Derived.Test.YtnkbeaipgadphaaChK3
namespace Go.Proofs.Ytnkbeaipgadphaa
open Go.RowKit
open C01

theorem pre_len {s p : ByteArray} (h : pre s p = true) : p.size ≤ s.size := by
  rcases Nat.lt_or_ge s.size p.size with h' | h'
  · rw [pre_short s p h'] at h; cases h
  · exact h'
def wordsV : List Value := wordsW.map Value.string
def textsV : List Value := wordsT.map Value.string
theorem words_cell (w : World) (k : Nat) (hk : k < 5) : (w.alloc (.cells #[.string ⟨#[38, 108, 116, 59]⟩, .string ⟨#[38, 103, 116, 59]⟩, .string ⟨#[38, 97, 109, 112, 59]⟩, .string ⟨#[38, 113, 117, 111, 116, 59]⟩, .string ⟨#[38, 97, 112, 111, 115, 59]⟩] 9)).cell? ⟨w.heap.size, k, none⟩ = some (.string (wW k)) := by
  rw [cell_of_row _ _ _ _ _ (0, 0) (heap_alloc_new w _)]
  match k, hk with
  | 0, _ => rfl
  | 1, _ => rfl
  | 2, _ => rfl
  | 3, _ => rfl
  | 4, _ => rfl
theorem texts_cell (w : World) (k : Nat) (hk : k < 5) : (w.alloc (.cells #[.string ⟨#[60]⟩, .string ⟨#[62]⟩, .string ⟨#[38]⟩, .string ⟨#[34]⟩, .string ⟨#[39]⟩] 9)).cell? ⟨w.heap.size, k, none⟩ = some (.string (wT k)) := by
  rw [cell_of_row _ _ _ _ _ (0, 0) (heap_alloc_new w _)]
  match k, hk with
  | 0, _ => rfl
  | 1, _ => rfl
  | 2, _ => rfl
  | 3, _ => rfl
  | 4, _ => rfl
theorem wW_size (k : Nat) (hk : k < 5) : (wW k).size ≤ 100 := by
  match k, hk with
  | 0, _ => decide
  | 1, _ => decide
  | 2, _ => decide
  | 3, _ => decide
  | 4, _ => decide
set_option maxHeartbeats 4000000 in
set_option maxRecDepth 4000 in
theorem refRef_any (s : ByteArray) (w : World) (hs : s.size ≤ 100000) : Calls Try.prog 18 #[.string s] w fun e w' => e = .returned (.tuple #[.string (refR2 s).1, .int .i64 (refR2 s).2.1, .int .i64 (refR2 s).2.2]) ∧ Below w.heap.size w w' := by
  obtain ⟨R, hR⟩ : ∃ R, R = refR2 s := ⟨_, rfl⟩
  rw [← hR]
  have Hr0 := Lib.hid hR.symm
  clear hR
  have HB := Lib.hid (fun p (hp : p.size ≤ 100000) w => begins_any s p w (by omega) (by omega))
  have HB2 := Lib.hid (fun p (hp : p.size ≤ 100000) w => begins_any p s w (by omega) (by omega))
  go_enter Try.func18, Try.ntmps18
  go_wp2
  obtain ⟨w2, hw2⟩ : ∃ w2, w2 = (w.alloc (.cells #[.string ⟨#[38, 108, 116, 59]⟩, .string ⟨#[38, 103, 116, 59]⟩, .string ⟨#[38, 97, 109, 112, 59]⟩, .string ⟨#[38, 113, 117, 111, 116, 59]⟩, .string ⟨#[38, 97, 112, 111, 115, 59]⟩] 9)).alloc (.cells #[.string ⟨#[60]⟩, .string ⟨#[62]⟩, .string ⟨#[38]⟩, .string ⟨#[34]⟩, .string ⟨#[39]⟩] 9) := ⟨_, rfl⟩
  rw [← hw2]
  have HW : Hid (∀ k, k < 5 → w2.cell? ⟨w.heap.size, k, none⟩ = some (.string (wW k))) := Lib.hid (fun k hk => by
    rw [hw2, ← words_cell w k hk]
    exact ((Below.refl _ (w.alloc _)).alloc (Nat.le_refl _) _).cell (p := ⟨w.heap.size, k, none⟩) (by simp))
  have HT : Hid (∀ k, k < 5 → w2.cell? ⟨w.heap.size + 1, k, none⟩ = some (.string (wT k))) := Lib.hid (fun k hk => by
    rw [hw2, ← texts_cell (w.alloc (.cells #[.string ⟨#[38, 108, 116, 59]⟩, .string ⟨#[38, 103, 116, 59]⟩, .string ⟨#[38, 97, 109, 112, 59]⟩, .string ⟨#[38, 113, 117, 111, 116, 59]⟩, .string ⟨#[38, 97, 112, 111, 115, 59]⟩] 9)) k hk]
    simp)
  have HL : Hid (Below w.heap.size w w2) := Lib.hid (by rw [hw2]; exact ((Below.refl _ w).alloc (Nat.le_refl _) _).alloc (by simp) _)
  obtain ⟨b, hb⟩ : ∃ b, b = w.heap.size := ⟨_, rfl⟩
  rw [← hb] at HW HT ⊢
  clear hw2 hb
  go_loop [19] (fun sv => ∃ k : Nat, k ≤ 5 ∧ sv = .int .i64 k ∧ Hid (firstN (wordF s) k = none)) (fun sv => 5 - (intOf sv).toNat)
  case atStart => exact ⟨0, Nat.zero_le _, rfl, Lib.hid rfl⟩
  case round =>
    obtain ⟨k, hk5, rfl, HN⟩ := hrel
    by_cases hk : k < 5
    · have hcW := HW.out k hk
      have hcT := HT.out k hk
      have hsz := wW_size k hk
      have HP1 := Lib.hid (HB.out (wW k) (by omega))
      have HP2 := Lib.hid (HB2.out (wW k) (by omega))
      have Hf := Lib.hid (show wordF s k = if pre s (wW k) = true then some (wT k, ((wW k).size : Int), 0) else if pre (wW k) s = true then some (⟨#[]⟩, 0, 1) else none from rfl)
      have Hhit := Lib.hid (fun (x : ByteArray × Int × Int) (h : wordF s k = some x) => show refR2 s = x by unfold refR2; rw [firstN_hit HN.out h hk]; rfl)
      have Hgo := Lib.hid (fun (h : wordF s k = none) => firstN_go HN.out h)
      generalize wW k = p at hcW hsz HP1 HP2 Hf
      generalize wT k = t at hcT Hf
      cases h1 : pre s p with
      | true =>
        have Hr := Lib.hid (Hr0.out.symm.trans (Hhit.out _ (Hf.out.trans (if_pos h1))))
        rw [h1] at HP1
        clear h1 Hf Hhit Hgo
        go_wp2_with (first   | (go_at_call 39; with_reducible refine (HP1.out _).mono ?_; rintro e w5 ⟨rfl, rfl⟩)   | (go_at_call 39; with_reducible refine (HP2.out _).mono ?_; rintro e w5 ⟨rfl, rfl⟩))
        go_ret3
        exact ⟨by rw [Hr.out]; rfl, HL.out⟩
      | false =>
        have Hf := Lib.hid (Hf.out.trans (if_neg (by rw [h1]; simp)))
        rw [h1] at HP1
        clear h1
        cases h2 : pre p s with
        | true =>
          have Hr := Lib.hid (Hr0.out.symm.trans (Hhit.out _ (Hf.out.trans (if_pos h2))))
          rw [h2] at HP2
          clear h2 Hf Hhit Hgo
          go_wp2_with (first   | (go_at_call 39; with_reducible refine (HP1.out _).mono ?_; rintro e w5 ⟨rfl, rfl⟩)   | (go_at_call 39; with_reducible refine (HP2.out _).mono ?_; rintro e w5 ⟨rfl, rfl⟩))
          go_ret3
          exact ⟨by rw [Hr.out]; rfl, HL.out⟩
        | false =>
          have Hn := Lib.hid (Hgo.out (Hf.out.trans (if_neg (by rw [h2]; simp))))
          rw [h2] at HP2
          clear h2 Hf Hhit Hgo
          go_wp2_with (first   | (go_at_call 39; with_reducible refine (HP1.out _).mono ?_; rintro e w5 ⟨rfl, rfl⟩)   | (go_at_call 39; with_reducible refine (HP2.out _).mono ?_; rintro e w5 ⟨rfl, rfl⟩))
          go_round
          case rel => exact ⟨k + 1, by omega, by go_num, Hn⟩
          case measure => simp [intOf]; omega
    · obtain rfl : k = 5 := by omega
      have Hr := Lib.hid (show refR2 s = restR2 s by unfold refR2; rw [HN.out]; rfl)
      have Hr := Lib.hid (Hr0.out.symm.trans (Hr.out.trans (show restR2 s = (if s = ⟨#[38, 35]⟩ then (⟨#[]⟩, 0, 1) else if s = ⟨#[38, 35, 120]⟩ then (⟨#[]⟩, 0, 1) else if pre s ⟨#[38, 35]⟩ = true then (if pre s ⟨#[38, 35, 120]⟩ = true then numR2 s 3 16 else numR2 s 2 10) else (⟨#[]⟩, 0, 2)) from rfl)))
      rcases Classical.em (s = ⟨#[38, 35]⟩) with h1 | h1
      · have Hr2 := Lib.hid (Hr.out.trans (if_pos h1))
        clear Hr Hr0 HN HB HB2
        subst h1
        go_wp2
        go_ret3
        exact ⟨by rw [Hr2.out]; rfl, HL.out⟩
      have Hr := Lib.hid (Hr.out.trans (if_neg h1))
      rcases Classical.em (s = ⟨#[38, 35, 120]⟩) with h2 | h2
      · have Hr2 := Lib.hid (Hr.out.trans (if_pos h2))
        clear Hr Hr0 HN HB HB2 h1
        subst h2
        go_wp2
        go_ret3
        exact ⟨by rw [Hr2.out]; rfl, HL.out⟩
      have Hr := Lib.hid (Hr.out.trans (if_neg h2))
      have e1 := str_ne h1
      have e2 := str_ne h2
      clear h1 h2
      have HP1 := Lib.hid (HB.out ⟨#[38, 35]⟩ (by decide))
      have HP2 := Lib.hid (HB.out ⟨#[38, 35, 120]⟩ (by decide))
      cases h1 : pre s ⟨#[38, 35]⟩ with
      | false =>
        have Hr := Lib.hid (Hr.out.trans (if_neg (by rw [h1]; simp)))
        rw [h1] at HP1
        clear h1
        go_wp2_with (first   | (go_at_call 39; with_reducible refine (HP1.out _).mono ?_; rintro e w5 ⟨rfl, rfl⟩)   | (go_at_call 39; with_reducible refine (HP2.out _).mono ?_; rintro e w5 ⟨rfl, rfl⟩))
        go_ret3
        exact ⟨by rw [Hr.out]; rfl, HL.out⟩
      | true =>
        have Hr := Lib.hid (Hr.out.trans (if_pos h1))
        rw [h1] at HP1
        cases h2 : pre s ⟨#[38, 35, 120]⟩ with
        | true =>
          have Hr := Lib.hid (Hr.out.trans (if_pos h2))
          rw [h2] at HP2
          have hfs : 3 ≤ s.size := pre_len h2
          clear h1 h2
          have Hr := Lib.hid (Hr.out.trans (show numR2 s 3 16 = (if 8 < digN s 3 16 then (⟨#[]⟩, 0, 2) else if 3 + digN s 3 16 = s.size then (⟨#[]⟩, 0, 1)
            else if byteN s (3 + digN s 3 16) ≠ 59 then (⟨#[]⟩, 0, 2) else if digN s 3 16 = 0 then (⟨#[]⟩, 0, 2)
            else if letterOk (numK 16 (s.extract 3 s.size) (digN s 3 16)) = true then (letterS (numK 16 (s.extract 3 s.size) (digN s 3 16)), ((3 + digN s 3 16 : Nat) : Int) + 1, 0) else (⟨#[]⟩, 0, 2)) from rfl))
          have hn0 := digN_le s 3 16 hfs
          have Hall := Lib.hid (fun i (h : i < digN s 3 16) => digN_all h)
          have Hout := Lib.hid (fun (h : 3 + digN s 3 16 < s.size) => digN_out h)
          generalize digN s 3 16 = n at Hr hn0 Hall Hout
          go_wp2_with (first   | (go_at_call 39; with_reducible refine (HP1.out _).mono ?_; rintro e w5 ⟨rfl, rfl⟩)   | (go_at_call 39; with_reducible refine (HP2.out _).mono ?_; rintro e w5 ⟨rfl, rfl⟩))
          clear HP1 HP2
          go_loop [9, 12] (fun av nv => ∃ i : Nat, i ≤ 9 ∧ i ≤ n ∧ av = .int .i64 ((3 + i : Nat) : Int) ∧ nv = .int .i64 (numK 16 (s.extract 3 s.size) i)) (fun av _ => s.size - (intOf av).toNat)
          case atStart => exact ⟨0, Nat.zero_le _, Nat.zero_le _, rfl, rfl⟩
          case round =>
            obtain ⟨i, hi9, hin, rfl, rfl⟩ := hrel
            obtain ⟨hk0, hk1⟩ := numK_nine (base := 16) (s := s.extract 3 s.size) (n := i) (by omega) hi9 (fun j hj => Hall.out j (by omega))
            have hw1 : IntKind.i64.wrap (((3 + i : Nat) : Int) - 3) = (i : Nat) := by rw [IntKind.wrap_i64]; omega
            rcases Nat.lt_or_ge i 9 with h9 | h9
            · rcases Nat.lt_or_ge (3 + i) s.size with hlt | hge
              · have hbn := byteN_eq hlt
                have hx := byteN_lt s (3 + i)
                have hte := tail_byte (s := s) (f := 3) (i := i) hlt
                rcases Nat.lt_or_ge i n with hdn | hdn
                · have hd := Hall.out i hdn
                  rw [hte] at hd
                  have Hs := Lib.hid (show numK 16 (s.extract 3 s.size) (i + 1) = numK 16 (s.extract 3 s.size) i * 16 + digI (byteN (s.extract 3 s.size) i : Nat) 16 from rfl)
                  rw [hte] at Hs
                  clear hte
                  generalize numK 16 (s.extract 3 s.size) i = k at Hs hk0 hk1 ⊢
                  generalize byteN s (3 + i) = x at Hs hd hbn hx
                  have hdl := digI_lt (x : Nat) 16 (by omega)
                  have hd0 : 0 ≤ digI (x : Nat) 16 := by unfold digB at hd; simpa using hd
                  have hwk : IntKind.i64.wrap (k * 16) = k * 16 := by rw [IntKind.wrap_i64]; omega
                  have Hd := Lib.hid (dig_eq (x : Nat) 16)
                  clear hd
                  rcases (show (48 ≤ x ∧ x ≤ 57) ∨ (65 ≤ x ∧ x ≤ 70) ∨ (97 ≤ x ∧ x ≤ 102) by have h := Hd.out; (repeat' split at h) <;> omega) with ⟨g1, g2⟩ | ⟨g1, g2⟩ | ⟨g1, g2⟩
                  · have hdx : digI (x : Nat) 16 = (x : Int) - 48 := by rw [Hd.out, if_pos (by omega)]
                    rw [hdx] at Hs hd0 hdl
                    have hwd : IntKind.i64.wrap (k * 16 + ((x : Int) - 48)) = k * 16 + ((x : Int) - 48) := by rw [IntKind.wrap_i64]; omega
                    have Hs := Lib.hid Hs.out.symm
                    clear hdx
                    go_wp2
                    go_round
                    case rel => exact ⟨i + 1, by omega, by omega, by go_num, congrArg (Value.int .i64) Hs.out⟩
                    case measure => simp [intOf]; omega
                  · have hdx : digI (x : Nat) 16 = (x : Int) - 55 := by rw [Hd.out, if_neg (by omega), if_neg (by omega), if_pos (by omega)]; omega
                    rw [hdx] at Hs hd0 hdl
                    have hwd : IntKind.i64.wrap (k * 16 + ((x : Int) - 55)) = k * 16 + ((x : Int) - 55) := by rw [IntKind.wrap_i64]; omega
                    have Hs := Lib.hid Hs.out.symm
                    clear hdx
                    go_wp2
                    go_round
                    case rel => exact ⟨i + 1, by omega, by omega, by go_num, congrArg (Value.int .i64) Hs.out⟩
                    case measure => simp [intOf]; omega
                  · have hdx : digI (x : Nat) 16 = (x : Int) - 87 := by rw [Hd.out, if_neg (by omega), if_pos (by omega)]; omega
                    rw [hdx] at Hs hd0 hdl
                    have hwd : IntKind.i64.wrap (k * 16 + ((x : Int) - 87)) = k * 16 + ((x : Int) - 87) := by rw [IntKind.wrap_i64]; omega
                    have Hs := Lib.hid Hs.out.symm
                    clear hdx
                    go_wp2
                    go_round
                    case rel => exact ⟨i + 1, by omega, by omega, by go_num, congrArg (Value.int .i64) Hs.out⟩
                    case measure => simp [intOf]; omega
                · obtain rfl : i = n := by omega
                  have hd := Hout.out hlt
                  have Hr := Lib.hid (Hr.out.trans ((if_neg (by omega)).trans (if_neg (by omega))))
                  have HLt := Lib.hid (fun w => refLetter_any (numK 16 (s.extract 3 s.size) i) w (by omega))
                  clear hte
                  generalize numK 16 (s.extract 3 s.size) i = k at Hr HLt hk0 hk1 ⊢
                  generalize byteN s (3 + i) = x at Hr hd hbn hx
                  have hdn : digI (x : Nat) 16 < 0 := by unfold digB at hd; simpa using hd
                  clear hd
                  have Hd := Lib.hid (dig_eq (x : Nat) 16)
                  have hrg : ¬ (48 ≤ x ∧ x ≤ 57) ∧ ¬ (65 ≤ x ∧ x ≤ 70) ∧ ¬ (97 ≤ x ∧ x ≤ 102) := by
                    have h := Hd.out
                    repeat' split at h
                    all_goals omega
                  clear hdn
                  rcases Classical.em (x = 59) with h59 | h59
                  · subst h59
                    rcases Nat.eq_zero_or_pos i with h0 | h0
                    · have Hz := Lib.hid (Hr.out.trans ((if_neg (by simp)).trans (if_pos h0)))
                      clear Hr
                      subst h0
                      go_wp2
                      go_ret3
                      exact ⟨by rw [Hz.out]; rfl, HL.out⟩
                    · have Hz := Lib.hid (Hr.out.trans ((if_neg (by simp)).trans (if_neg (by omega))))
                      clear Hr
                      cases hl : letterOk k with
                      | true =>
                        have Hz := Lib.hid (Hz.out.trans (if_pos hl))
                        have hne := letterS_ne hl
                        clear hl
                        generalize letterS k = t at Hz HLt hne
                        have e1 := str_ne hne
                        clear hne
                        go_wp2_with fail
                        refine (HLt.out _).mono ?_
                        rintro e w6 ⟨rfl, hb⟩
                        have HL6 := Lib.hid (HL.out.trans (hb.mono HL.out.size))
                        clear hb
                        go_wp2_with fail
                        refine (HLt.out _).mono ?_
                        rintro e w7 ⟨rfl, hb⟩
                        have HL7 := Lib.hid (HL6.out.trans (hb.mono HL6.out.size))
                        clear hb
                        go_wp2
                        go_ret3
                        exact ⟨by rw [Hz.out]; rfl, HL7.out⟩
                      | false =>
                        have Hz := Lib.hid (Hz.out.trans (if_neg (by rw [hl]; simp)))
                        have hz : letterS k = ⟨#[]⟩ := by unfold letterS; rw [hl]; rfl
                        rw [hz] at HLt
                        clear hl hz
                        go_wp2_with (go_at_call 14; with_reducible refine (HLt.out _).mono ?_; rintro e w6 ⟨rfl, hb⟩; have HL6 := Lib.hid hb; clear hb)
                        go_ret3
                        exact ⟨by rw [Hz.out]; rfl, HL.out.trans (HL6.out.mono HL.out.size)⟩
                  · have Hr := Lib.hid (Hr.out.trans (if_pos h59))
                    have hne : (((x : Nat) : Int) != 59) = true := bne_iff_ne.2 (by omega)
                    rcases (show x < 48 ∨ (57 < x ∧ x < 65) ∨ (70 < x ∧ x < 97) ∨ 102 < x by omega) with g | g | g | g
                    all_goals
                      clear hrg
                      go_wp2
                      go_ret3
                      exact ⟨by rw [Hr.out]; rfl, HL.out⟩
              · obtain rfl : i = n := by omega
                have Hr := Lib.hid (Hr.out.trans ((if_neg (by omega)).trans (if_pos (by omega))))
                generalize numK 16 (s.extract 3 s.size) i = k at hk0 hk1 ⊢
                go_wp2
                go_ret3
                exact ⟨by rw [Hr.out]; rfl, HL.out⟩
            · obtain rfl : i = 9 := by omega
              have Hr := Lib.hid (Hr.out.trans (if_pos (by omega)))
              generalize numK 16 (s.extract 3 s.size) 9 = k at hk0 hk1 ⊢
              go_wp2
              all_goals
                go_ret3
                exact ⟨by rw [Hr.out]; rfl, HL.out⟩
        | false =>
          have Hr := Lib.hid (Hr.out.trans (if_neg (by rw [h2]; simp)))
          rw [h2] at HP2
          have hfs : 2 ≤ s.size := pre_len h1
          clear h1 h2
          have Hr := Lib.hid (Hr.out.trans (show numR2 s 2 10 = (if 8 < digN s 2 10 then (⟨#[]⟩, 0, 2) else if 2 + digN s 2 10 = s.size then (⟨#[]⟩, 0, 1)
            else if byteN s (2 + digN s 2 10) ≠ 59 then (⟨#[]⟩, 0, 2) else if digN s 2 10 = 0 then (⟨#[]⟩, 0, 2)
            else if letterOk (numK 10 (s.extract 2 s.size) (digN s 2 10)) = true then (letterS (numK 10 (s.extract 2 s.size) (digN s 2 10)), ((2 + digN s 2 10 : Nat) : Int) + 1, 0) else (⟨#[]⟩, 0, 2)) from rfl))
          have hn0 := digN_le s 2 10 hfs
          have Hall := Lib.hid (fun i (h : i < digN s 2 10) => digN_all h)
          have Hout := Lib.hid (fun (h : 2 + digN s 2 10 < s.size) => digN_out h)
          generalize digN s 2 10 = n at Hr hn0 Hall Hout
          go_wp2_with (first   | (go_at_call 39; with_reducible refine (HP1.out _).mono ?_; rintro e w5 ⟨rfl, rfl⟩)   | (go_at_call 39; with_reducible refine (HP2.out _).mono ?_; rintro e w5 ⟨rfl, rfl⟩))
          clear HP1 HP2
          go_loop [9, 12] (fun av nv => ∃ i : Nat, i ≤ 9 ∧ i ≤ n ∧ av = .int .i64 ((2 + i : Nat) : Int) ∧ nv = .int .i64 (numK 10 (s.extract 2 s.size) i)) (fun av _ => s.size - (intOf av).toNat)
          case atStart => exact ⟨0, Nat.zero_le _, Nat.zero_le _, rfl, rfl⟩
          case round =>
            obtain ⟨i, hi9, hin, rfl, rfl⟩ := hrel
            obtain ⟨hk0, hk1⟩ := numK_nine (base := 10) (s := s.extract 2 s.size) (n := i) (by omega) hi9 (fun j hj => Hall.out j (by omega))
            have hw1 : IntKind.i64.wrap (((2 + i : Nat) : Int) - 2) = (i : Nat) := by rw [IntKind.wrap_i64]; omega
            rcases Nat.lt_or_ge i 9 with h9 | h9
            · rcases Nat.lt_or_ge (2 + i) s.size with hlt | hge
              · have hbn := byteN_eq hlt
                have hx := byteN_lt s (2 + i)
                have hte := tail_byte (s := s) (f := 2) (i := i) hlt
                rcases Nat.lt_or_ge i n with hdn | hdn
                · have hd := Hall.out i hdn
                  rw [hte] at hd
                  have Hs := Lib.hid (show numK 10 (s.extract 2 s.size) (i + 1) = numK 10 (s.extract 2 s.size) i * 10 + digI (byteN (s.extract 2 s.size) i : Nat) 10 from rfl)
                  rw [hte] at Hs
                  clear hte
                  generalize numK 10 (s.extract 2 s.size) i = k at Hs hk0 hk1 ⊢
                  generalize byteN s (2 + i) = x at Hs hd hbn hx
                  have hdl := digI_lt (x : Nat) 10 (by omega)
                  have hd0 : 0 ≤ digI (x : Nat) 10 := by unfold digB at hd; simpa using hd
                  have hwk : IntKind.i64.wrap (k * 10) = k * 10 := by rw [IntKind.wrap_i64]; omega
                  have Hd := Lib.hid (dig_eq (x : Nat) 10)
                  clear hd
                  rcases (show (48 ≤ x ∧ x ≤ 57) ∨ (65 ≤ x ∧ x ≤ 70) ∨ (97 ≤ x ∧ x ≤ 102) by have h := Hd.out; (repeat' split at h) <;> omega) with ⟨g1, g2⟩ | ⟨g1, g2⟩ | ⟨g1, g2⟩
                  · have hdx : digI (x : Nat) 10 = (x : Int) - 48 := by rw [Hd.out, if_pos (by omega)]
                    rw [hdx] at Hs hd0 hdl
                    have hwd : IntKind.i64.wrap (k * 10 + ((x : Int) - 48)) = k * 10 + ((x : Int) - 48) := by rw [IntKind.wrap_i64]; omega
                    have Hs := Lib.hid Hs.out.symm
                    clear hdx
                    go_wp2
                    go_round
                    case rel => exact ⟨i + 1, by omega, by omega, by go_num, congrArg (Value.int .i64) Hs.out⟩
                    case measure => simp [intOf]; omega
                  · exfalso
                    have h := Hd.out
                    rw [if_neg (by omega), if_neg (by omega), if_neg (by omega)] at h
                    omega
                  · exfalso
                    have h := Hd.out
                    rw [if_neg (by omega), if_neg (by omega), if_neg (by omega)] at h
                    omega
                · obtain rfl : i = n := by omega
                  have hd := Hout.out hlt
                  have Hr := Lib.hid (Hr.out.trans ((if_neg (by omega)).trans (if_neg (by omega))))
                  have HLt := Lib.hid (fun w => refLetter_any (numK 10 (s.extract 2 s.size) i) w (by omega))
                  clear hte
                  generalize numK 10 (s.extract 2 s.size) i = k at Hr HLt hk0 hk1 ⊢
                  generalize byteN s (2 + i) = x at Hr hd hbn hx
                  have hdn : digI (x : Nat) 10 < 0 := by unfold digB at hd; simpa using hd
                  clear hd
                  have Hd := Lib.hid (dig_eq (x : Nat) 10)
                  have hrg : ¬ (48 ≤ x ∧ x ≤ 57) := by
                    have h := Hd.out
                    repeat' split at h
                    all_goals omega
                  clear hdn
                  rcases Classical.em (x = 59) with h59 | h59
                  · subst h59
                    rcases Nat.eq_zero_or_pos i with h0 | h0
                    · have Hz := Lib.hid (Hr.out.trans ((if_neg (by simp)).trans (if_pos h0)))
                      clear Hr
                      subst h0
                      go_wp2
                      go_ret3
                      exact ⟨by rw [Hz.out]; rfl, HL.out⟩
                    · have Hz := Lib.hid (Hr.out.trans ((if_neg (by simp)).trans (if_neg (by omega))))
                      clear Hr
                      cases hl : letterOk k with
                      | true =>
                        have Hz := Lib.hid (Hz.out.trans (if_pos hl))
                        have hne := letterS_ne hl
                        clear hl
                        generalize letterS k = t at Hz HLt hne
                        have e1 := str_ne hne
                        clear hne
                        go_wp2_with fail
                        refine (HLt.out _).mono ?_
                        rintro e w6 ⟨rfl, hb⟩
                        have HL6 := Lib.hid (HL.out.trans (hb.mono HL.out.size))
                        clear hb
                        go_wp2_with fail
                        refine (HLt.out _).mono ?_
                        rintro e w7 ⟨rfl, hb⟩
                        have HL7 := Lib.hid (HL6.out.trans (hb.mono HL6.out.size))
                        clear hb
                        go_wp2
                        go_ret3
                        exact ⟨by rw [Hz.out]; rfl, HL7.out⟩
                      | false =>
                        have Hz := Lib.hid (Hz.out.trans (if_neg (by rw [hl]; simp)))
                        have hz : letterS k = ⟨#[]⟩ := by unfold letterS; rw [hl]; rfl
                        rw [hz] at HLt
                        clear hl hz
                        go_wp2_with (go_at_call 14; with_reducible refine (HLt.out _).mono ?_; rintro e w6 ⟨rfl, hb⟩; have HL6 := Lib.hid hb; clear hb)
                        go_ret3
                        exact ⟨by rw [Hz.out]; rfl, HL.out.trans (HL6.out.mono HL.out.size)⟩
                  · have Hr := Lib.hid (Hr.out.trans (if_pos h59))
                    have hne : (((x : Nat) : Int) != 59) = true := bne_iff_ne.2 (by omega)
                    rcases (show x < 48 ∨ (57 < x ∧ x < 65) ∨ (70 < x ∧ x < 97) ∨ 102 < x ∨ (65 ≤ x ∧ x ≤ 70) ∨ (97 ≤ x ∧ x ≤ 102) by omega) with g | g | g | g | g | g
                    all_goals
                      clear hrg
                      go_wp2
                      go_ret3
                      exact ⟨by rw [Hr.out]; rfl, HL.out⟩
              · obtain rfl : i = n := by omega
                have Hr := Lib.hid (Hr.out.trans ((if_neg (by omega)).trans (if_pos (by omega))))
                generalize numK 10 (s.extract 2 s.size) i = k at hk0 hk1 ⊢
                go_wp2
                go_ret3
                exact ⟨by rw [Hr.out]; rfl, HL.out⟩
            · obtain rfl : i = 9 := by omega
              have Hr := Lib.hid (Hr.out.trans (if_pos (by omega)))
              generalize numK 10 (s.extract 2 s.size) 9 = k at hk0 hk1 ⊢
              go_wp2
              all_goals
                go_ret3
                exact ⟨by rw [Hr.out]; rfl, HL.out⟩
end Go.Proofs.Ytnkbeaipgadphaa
