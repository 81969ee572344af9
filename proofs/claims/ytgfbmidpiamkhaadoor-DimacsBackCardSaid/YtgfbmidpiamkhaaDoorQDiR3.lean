/- The reference's Parsed: a number. -/
import Derived.Test.YtgfbmidpiamkhaaDoorZd
namespace Go.Proofs.YtgfbmidpiamkhaaDoor
open Go.RowKit
open C01 D28

def ParsedV (a : Bs) : Value := .tuple #[.int .i64 ((parseL a).getD 0), .bool (parseL a).isSome]
set_option maxRecDepth 100000 in
set_option maxHeartbeats 8000000 in
theorem Parsed_any (a : Bs) (w : World) : Calls Tryd.prog 36 #[sv a] w (fun e w' => e = .returned (ParsedV a) ∧ w' = w) := by
  unfold ParsedV
  cases a with
  | nil =>
    have hE : (((bz []).size : Int) == 0) = true := rfl
    have h00 : ¬ (0 : Int) < ((bz []).size : Int) := by decide
    go_enter Tryd.func36, Tryd.ntmps36
    go_wp2
    go_ret2
    exact ⟨rfl, rfl⟩
  | cons c r =>
    have h00 : (0 : Int) < ((bz (c :: r)).size : Int) := by rw [bz_size]; simp
    have hi0 : 0 < (bz (c :: r)).size := by rw [bz_size]; simp
    by_cases hc : c = 45
    · subst hc
      have h45 : (((bz (45 :: r))[0].toNat : Int) == 45) = true := rfl
      have hx : (bz (45 :: r)).extract 1 (bz (45 :: r)).size = bz r := by rw [bz_ext, bz_size]; congr 1; simp
      have hp : parseL (45 :: r) = parseD true r := rfl
      have Hp := Lib.hid hp
      obtain ⟨d, hd⟩ : ∃ d, d = r := ⟨_, rfl⟩
      subst hd
      clear hp
      have h1s : (1 : Int) ≤ ((bz (45 :: d)).size : Int) := by omega
      go_enter Tryd.func36, Tryd.ntmps36
      go_upto_if 15 with fail
      by_cases hw : wrongD true d
      · have Hn := Lib.hid (Hp.out.trans (parseD_wrong hw))
        have hcase : d = [] ∨ (d ≠ [] ∧ 9 < d.length) ∨ (d ≠ [] ∧ ¬ 9 < d.length ∧ d.head? = some 48 ∧ 1 < d.length) ∨ (d ≠ [] ∧ ¬ 9 < d.length ∧ d.head? = some 48 ∧ ¬ 1 < d.length) := by
          by_cases h0 : d = [] <;> by_cases h9 : 9 < d.length <;> by_cases h1 : 1 < d.length <;> simp_all [wrongD]
        clear hw
        rcases hcase with rfl | ⟨h0, h9⟩ | ⟨h0, h9, hh, h1⟩ | ⟨h0, h9, hh, h1⟩
        · have hE : (((bz []).size : Int) == 0) = true := rfl
          go_wp2
          go_ret2
          exact ⟨by rw [Hn.out]; rfl, rfl⟩
        · have hE : (((bz d).size : Int) == 0) = false := by rw [bz_size, beq_eq_false_iff_ne]; have := List.length_pos_iff.2 h0; omega
          have hs9 : (9 : Int) < ((bz d).size : Int) := by rw [bz_size]; omega
          clear h0 h9
          go_wp2
          go_ret2
          exact ⟨by rw [Hn.out]; rfl, rfl⟩
        · have hE : (((bz d).size : Int) == 0) = false := by rw [bz_size, beq_eq_false_iff_ne]; have := List.length_pos_iff.2 h0; omega
          have hs9 : decide ((9 : Int) < ((bz d).size : Int)) = false := by rw [bz_size]; simp; omega
          have hs0 : 0 < (bz d).size := by rw [bz_size]; exact List.length_pos_iff.2 h0
          have h48 : (((bz d)[0].toNat : Int) == 48) = true := by
            cases d with
            | nil => cases hs0
            | cons c r => simp only [List.head?_cons, Option.some.injEq] at hh; subst hh; rfl
          have hs1 : (1 : Int) < ((bz d).size : Int) := by rw [bz_size]; omega
          clear h0 h9 h1 hh
          go_wp2
          go_ret2
          exact ⟨by rw [Hn.out]; rfl, rfl⟩
        · have hE : (((bz d).size : Int) == 0) = false := by rw [bz_size, beq_eq_false_iff_ne]; have := List.length_pos_iff.2 h0; omega
          have hs9 : decide ((9 : Int) < ((bz d).size : Int)) = false := by rw [bz_size]; simp; omega
          have hs0 : 0 < (bz d).size := by rw [bz_size]; exact List.length_pos_iff.2 h0
          have h48 : (((bz d)[0].toNat : Int) == 48) = true := by
            cases d with
            | nil => cases hs0
            | cons c r => simp only [List.head?_cons, Option.some.injEq] at hh; subst hh; rfl
          have hs1 : ¬ ((1 : Int) < ((bz d).size : Int)) := by rw [bz_size]; omega
          clear h0 h9 h1 hh
          go_wp2
          go_ret2
          exact ⟨by rw [Hn.out]; rfl, rfl⟩
      · have Hn := Lib.hid (Hp.out.trans (parseD_ok hw))
        have h0 : d ≠ [] := fun e => hw (.inl e)
        have h9 : d.length ≤ 9 := by
          rcases Nat.lt_or_ge 9 d.length with h | h
          · exact absurd (.inr (.inl h)) hw
          · exact h
        have hE : (((bz d).size : Int) == 0) = false := by rw [bz_size, beq_eq_false_iff_ne]; have := List.length_pos_iff.2 h0; omega
        have hs9 : decide ((9 : Int) < ((bz d).size : Int)) = false := by rw [bz_size]; simp; omega
        have hs0 : 0 < (bz d).size := by rw [bz_size]; exact List.length_pos_iff.2 h0
        have hcase : ∃ b : Bool, (((bz d)[0].toNat : Int) == 48) = b ∧ (b = true → decide ((1 : Int) < ((bz d).size : Int)) = false ∧ true = false) := by
          refine ⟨_, rfl, fun hb => ?_⟩
          have hh : d.head? = some 48 := by
            cases d with
            | nil => cases hs0
            | cons c r =>
              have : (c.toNat : Int) = 48 := beq_iff_eq.1 hb
              have : c = 48 := UInt8.toNat_inj.1 (by show c.toNat = 48; omega)
              rw [this]; rfl
          refine ⟨decide_eq_false fun h1 => hw (.inr (.inr ⟨hh, .inl (by rw [bz_size] at h1; omega)⟩)), ?_⟩
          exact absurd (.inr (.inr ⟨hh, .inr rfl⟩)) hw
        obtain ⟨b, h48, hb⟩ := hcase
        have hl9 := Lib.hid h9
        clear hw h0 h9
        have Hlt := Lib.hid (fun k (hk : k ≤ d.length) (h : (d.take k).all digU = true) => Nat.lt_of_lt_of_le (numOf_lt k hk h) (Nat.pow_le_pow_right (n := 10) (by omega) (show k ≤ 9 by have := hl9.out; omega)))
        have Hne := Lib.hid hs0
        cases b
        rotate_left
        · exact absurd (hb rfl).2 (by decide)
        all_goals
          try have hs1 := (hb rfl).1
          clear hb
          go_wp2
          go_loopw [6, 5] (fun iv nv wr => ∃ k : Nat, k ≤ d.length ∧ iv = .int .i64 k ∧ nv = .int .i64 (numOf (d.take k) : Nat) ∧ Hid ((d.take k).all digU = true) ∧ wr = w) (fun iv _ _ => d.length - (intOf iv).toNat)
          case atStart => exact ⟨0, Nat.zero_le _, rfl, rfl, rfl, rfl⟩
          case round =>
            obtain ⟨k, hk, rfl, rfl, HA, rfl⟩ := hrel
            by_cases hlt : k < d.length
            · have hks : (k : Int) < ((bz d).size : Int) := by rw [bz_size]; omega
              have hki : k < (bz d).size := hlt
              have hk9 : k < 9 := by have := hl9.out; omega
              have HT := Lib.hid (numOf_take hlt)
              have HE := Lib.hid (show (d.take (k + 1)).all digU = ((d.take k).all digU && digU (d[k]'hlt)) by rw [List.take_succ_eq_append_getElem hlt, List.all_append]; simp)
              have HN := Lib.hid (show digU (d[k]'hlt) = false → d.all digU = false from fun h => List.all_eq_false.2 ⟨d[k]'hlt, List.getElem_mem hlt, by rw [h]; simp⟩)
              have hn9 := Hlt.out k hk HA.out
              have Hx := Lib.hid (show (bz d)[k] = d[k]'hlt from rfl)
              have hx := (bz d)[k].toNat_lt
              obtain ⟨m, hm⟩ : ∃ m, m = numOf (d.take k) := ⟨_, rfl⟩
              rw [← hm] at HT hn9 ⊢
              clear hm
              rw [← Hx.out] at HT HE HN
              cases hdc : digU ((bz d)[k]) with
              | false =>
                have Hf := Lib.hid (HN.out hdc)
                have hd2 : ((bz d)[k].toNat : Int) < 48 ∨ (¬ ((bz d)[k].toNat : Int) < 48 ∧ 57 < ((bz d)[k].toNat : Int)) := by
                  unfold digU at hdc
                  simp only [Bool.and_eq_false_iff, decide_eq_false_iff_not] at hdc
                  omega
                clear hdc
                rcases hd2 with h1 | ⟨h1, h2⟩
                · go_wp2
                  go_ret2
                  exact ⟨by rw [Hn.out, Hf.out]; rfl, rfl⟩
                · have h3 : decide (((bz d)[k].toNat : Int) < 48) = false := decide_eq_false h1
                  go_wp2
                  go_ret2
                  exact ⟨by rw [Hn.out, Hf.out]; rfl, rfl⟩
              | true =>
                have h2 : 48 ≤ (bz d)[k].toNat ∧ (bz d)[k].toNat ≤ 57 := by
                  unfold digU at hdc
                  simp only [Bool.and_eq_true, decide_eq_true_eq] at hdc
                  omega
                have HE2 := Lib.hid (show (d.take (k + 1)).all digU = true by rw [HE.out, HA.out, hdc]; rfl)
                obtain ⟨x, hxx⟩ : ∃ x, x = (bz d)[k].toNat := ⟨_, rfl⟩
                have h3 : decide (((bz d)[k].toNat : Int) < 48) = false := decide_eq_false (by omega)
                have h4 : decide (57 < ((bz d)[k].toNat : Int)) = false := decide_eq_false (by omega)
                have e0 : IntKind.i64.wrap ((bz d)[k].toNat : Int) = ((bz d)[k].toNat : Int) := by rw [IntKind.wrap_i64]; omega
                have e1 : IntKind.i64.wrap ((m : Int) * 10) = (m : Int) * 10 := by rw [IntKind.wrap_i64]; omega
                have e2 : IntKind.i64.wrap ((m : Int) * 10 + ((bz d)[k].toNat : Int)) = (m : Int) * 10 + ((bz d)[k].toNat : Int) := by rw [IntKind.wrap_i64]; omega
                have e3 : IntKind.i64.wrap ((m : Int) * 10 + ((bz d)[k].toNat : Int) - 48) = (m : Int) * 10 + ((bz d)[k].toNat : Int) - 48 := by rw [IntKind.wrap_i64]; omega
                clear hdc hxx
                go_wp2
                go_roundw
                case rel => exact ⟨k + 1, by omega, by go_num, by rw [HT.out]; congr 1; omega, HE2, trivial⟩
                case measure => simp [intOf]; omega
            · obtain rfl : k = d.length := by omega
              have hks : ¬ (((d.length : Nat) : Int) < ((bz d).size : Int)) := by rw [bz_size]; omega
              have HAll := Lib.hid (show d.all digU = true by have := HA.out; rwa [List.take_length] at this)
              have HN := Lib.hid (show numOf (d.take d.length) = numOf d by rw [List.take_length])
              have hn9 := Hlt.out _ hk HA.out
              rw [HN.out] at hn9 ⊢
              have ew : IntKind.i64.wrap (-(numOf d : Int)) = -(numOf d : Int) := by rw [IntKind.wrap_i64]; omega
              go_wp2
              go_ret2
              exact ⟨by rw [Hn.out, HAll.out]; rfl, rfl⟩
    · have h45 : (((bz (c :: r))[0].toNat : Int) == 45) = false := by
        rw [beq_eq_false_iff_ne]; intro e; exact hc (UInt8.toNat_inj.1 (by show c.toNat = 45; exact Int.ofNat.inj e))
      have hp : parseL (c :: r) = parseD false (c :: r) := by unfold parseL; split <;> simp_all
      have Hp := Lib.hid hp
      clear hp hc
      generalize hd : c :: r = d at h00 hi0 h45 Hp ⊢
      clear hd
      go_enter Tryd.func36, Tryd.ntmps36
      go_upto_if 15 with fail
      by_cases hw : wrongD false d
      · have Hn := Lib.hid (Hp.out.trans (parseD_wrong hw))
        have hcase : d = [] ∨ (d ≠ [] ∧ 9 < d.length) ∨ (d ≠ [] ∧ ¬ 9 < d.length ∧ d.head? = some 48 ∧ 1 < d.length) := by
          by_cases h0 : d = [] <;> by_cases h9 : 9 < d.length <;> by_cases h1 : 1 < d.length <;> simp_all [wrongD]
        clear hw
        rcases hcase with rfl | ⟨h0, h9⟩ | ⟨h0, h9, hh, h1⟩
        · have hE : (((bz []).size : Int) == 0) = true := rfl
          go_wp2
          go_ret2
          exact ⟨by rw [Hn.out]; rfl, rfl⟩
        · have hE : (((bz d).size : Int) == 0) = false := by rw [bz_size, beq_eq_false_iff_ne]; have := List.length_pos_iff.2 h0; omega
          have hs9 : (9 : Int) < ((bz d).size : Int) := by rw [bz_size]; omega
          clear h0 h9
          go_wp2
          go_ret2
          exact ⟨by rw [Hn.out]; rfl, rfl⟩
        · have hE : (((bz d).size : Int) == 0) = false := by rw [bz_size, beq_eq_false_iff_ne]; have := List.length_pos_iff.2 h0; omega
          have hs9 : decide ((9 : Int) < ((bz d).size : Int)) = false := by rw [bz_size]; simp; omega
          have hs0 : 0 < (bz d).size := by rw [bz_size]; exact List.length_pos_iff.2 h0
          have h48 : (((bz d)[0].toNat : Int) == 48) = true := by
            cases d with
            | nil => cases hs0
            | cons c r => simp only [List.head?_cons, Option.some.injEq] at hh; subst hh; rfl
          have hs1 : (1 : Int) < ((bz d).size : Int) := by rw [bz_size]; omega
          clear h0 h9 h1 hh
          go_wp2
          go_ret2
          exact ⟨by rw [Hn.out]; rfl, rfl⟩
      · have Hn := Lib.hid (Hp.out.trans (parseD_ok hw))
        have h0 : d ≠ [] := fun e => hw (.inl e)
        have h9 : d.length ≤ 9 := by
          rcases Nat.lt_or_ge 9 d.length with h | h
          · exact absurd (.inr (.inl h)) hw
          · exact h
        have hE : (((bz d).size : Int) == 0) = false := by rw [bz_size, beq_eq_false_iff_ne]; have := List.length_pos_iff.2 h0; omega
        have hs9 : decide ((9 : Int) < ((bz d).size : Int)) = false := by rw [bz_size]; simp; omega
        have hs0 : 0 < (bz d).size := by rw [bz_size]; exact List.length_pos_iff.2 h0
        have hcase : ∃ b : Bool, (((bz d)[0].toNat : Int) == 48) = b ∧ (b = true → decide ((1 : Int) < ((bz d).size : Int)) = false ∧ false = false) := by
          refine ⟨_, rfl, fun hb => ?_⟩
          have hh : d.head? = some 48 := by
            cases d with
            | nil => cases hs0
            | cons c r =>
              have : (c.toNat : Int) = 48 := beq_iff_eq.1 hb
              have : c = 48 := UInt8.toNat_inj.1 (by show c.toNat = 48; omega)
              rw [this]; rfl
          refine ⟨decide_eq_false fun h1 => hw (.inr (.inr ⟨hh, .inl (by rw [bz_size] at h1; omega)⟩)), ?_⟩
          rfl
        obtain ⟨b, h48, hb⟩ := hcase
        have hl9 := Lib.hid h9
        clear hw h0 h9
        have Hlt := Lib.hid (fun k (hk : k ≤ d.length) (h : (d.take k).all digU = true) => Nat.lt_of_lt_of_le (numOf_lt k hk h) (Nat.pow_le_pow_right (n := 10) (by omega) (show k ≤ 9 by have := hl9.out; omega)))
        have Hne := Lib.hid hs0
        cases b
        all_goals
          try have hs1 := (hb rfl).1
          clear hb
          go_wp2
          go_loopw [6, 5] (fun iv nv wr => ∃ k : Nat, k ≤ d.length ∧ iv = .int .i64 k ∧ nv = .int .i64 (numOf (d.take k) : Nat) ∧ Hid ((d.take k).all digU = true) ∧ wr = w) (fun iv _ _ => d.length - (intOf iv).toNat)
          case atStart => exact ⟨0, Nat.zero_le _, rfl, rfl, rfl, rfl⟩
          case round =>
            obtain ⟨k, hk, rfl, rfl, HA, rfl⟩ := hrel
            by_cases hlt : k < d.length
            · have hks : (k : Int) < ((bz d).size : Int) := by rw [bz_size]; omega
              have hki : k < (bz d).size := hlt
              have hk9 : k < 9 := by have := hl9.out; omega
              have HT := Lib.hid (numOf_take hlt)
              have HE := Lib.hid (show (d.take (k + 1)).all digU = ((d.take k).all digU && digU (d[k]'hlt)) by rw [List.take_succ_eq_append_getElem hlt, List.all_append]; simp)
              have HN := Lib.hid (show digU (d[k]'hlt) = false → d.all digU = false from fun h => List.all_eq_false.2 ⟨d[k]'hlt, List.getElem_mem hlt, by rw [h]; simp⟩)
              have hn9 := Hlt.out k hk HA.out
              have Hx := Lib.hid (show (bz d)[k] = d[k]'hlt from rfl)
              have hx := (bz d)[k].toNat_lt
              obtain ⟨m, hm⟩ : ∃ m, m = numOf (d.take k) := ⟨_, rfl⟩
              rw [← hm] at HT hn9 ⊢
              clear hm
              rw [← Hx.out] at HT HE HN
              cases hdc : digU ((bz d)[k]) with
              | false =>
                have Hf := Lib.hid (HN.out hdc)
                have hd2 : ((bz d)[k].toNat : Int) < 48 ∨ (¬ ((bz d)[k].toNat : Int) < 48 ∧ 57 < ((bz d)[k].toNat : Int)) := by
                  unfold digU at hdc
                  simp only [Bool.and_eq_false_iff, decide_eq_false_iff_not] at hdc
                  omega
                clear hdc
                rcases hd2 with h1 | ⟨h1, h2⟩
                · go_wp2
                  go_ret2
                  exact ⟨by rw [Hn.out, Hf.out]; rfl, rfl⟩
                · have h3 : decide (((bz d)[k].toNat : Int) < 48) = false := decide_eq_false h1
                  go_wp2
                  go_ret2
                  exact ⟨by rw [Hn.out, Hf.out]; rfl, rfl⟩
              | true =>
                have h2 : 48 ≤ (bz d)[k].toNat ∧ (bz d)[k].toNat ≤ 57 := by
                  unfold digU at hdc
                  simp only [Bool.and_eq_true, decide_eq_true_eq] at hdc
                  omega
                have HE2 := Lib.hid (show (d.take (k + 1)).all digU = true by rw [HE.out, HA.out, hdc]; rfl)
                obtain ⟨x, hxx⟩ : ∃ x, x = (bz d)[k].toNat := ⟨_, rfl⟩
                have h3 : decide (((bz d)[k].toNat : Int) < 48) = false := decide_eq_false (by omega)
                have h4 : decide (57 < ((bz d)[k].toNat : Int)) = false := decide_eq_false (by omega)
                have e0 : IntKind.i64.wrap ((bz d)[k].toNat : Int) = ((bz d)[k].toNat : Int) := by rw [IntKind.wrap_i64]; omega
                have e1 : IntKind.i64.wrap ((m : Int) * 10) = (m : Int) * 10 := by rw [IntKind.wrap_i64]; omega
                have e2 : IntKind.i64.wrap ((m : Int) * 10 + ((bz d)[k].toNat : Int)) = (m : Int) * 10 + ((bz d)[k].toNat : Int) := by rw [IntKind.wrap_i64]; omega
                have e3 : IntKind.i64.wrap ((m : Int) * 10 + ((bz d)[k].toNat : Int) - 48) = (m : Int) * 10 + ((bz d)[k].toNat : Int) - 48 := by rw [IntKind.wrap_i64]; omega
                clear hdc hxx
                go_wp2
                go_roundw
                case rel => exact ⟨k + 1, by omega, by go_num, by rw [HT.out]; congr 1; omega, HE2, trivial⟩
                case measure => simp [intOf]; omega
            · obtain rfl : k = d.length := by omega
              have hks : ¬ (((d.length : Nat) : Int) < ((bz d).size : Int)) := by rw [bz_size]; omega
              have HAll := Lib.hid (show d.all digU = true by have := HA.out; rwa [List.take_length] at this)
              have HN := Lib.hid (show numOf (d.take d.length) = numOf d by rw [List.take_length])
              have hn9 := Hlt.out _ hk HA.out
              rw [HN.out] at hn9 ⊢
              have ew : IntKind.i64.wrap (-(numOf d : Int)) = -(numOf d : Int) := by rw [IntKind.wrap_i64]; omega
              go_wp2
              go_ret2
              exact ⟨by rw [Hn.out, HAll.out]; rfl, rfl⟩
end Go.Proofs.YtgfbmidpiamkhaaDoor
