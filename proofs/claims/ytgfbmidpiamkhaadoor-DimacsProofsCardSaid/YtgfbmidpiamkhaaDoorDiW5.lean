/- dimacs.parse: a number. -/
import Derived.Test.YtgfbmidpiamkhaaDoorDiW4
namespace Go.Proofs.YtgfbmidpiamkhaaDoor
open Go.RowKit
open C01 D28

theorem dig_eqU (c : UInt8) : digitB (c.toNat : Int) = digU c := by
  unfold digitB digU
  rw [Bool.eq_iff_iff]
  simp only [Bool.and_eq_true, decide_eq_true_eq]
  omega
theorem parseL_eq (a : Bs) : parseL a = parseD (minusB a) (restB a) := by
  cases a with
  | nil => rfl
  | cons c r =>
    by_cases h : c = 45
    · subst h; rfl
    · have h1 : minusB (c :: r) = false := by unfold minusB; split <;> simp_all
      have h2 : restB (c :: r) = c :: r := by unfold restB; split <;> simp_all
      rw [h1, h2]; unfold parseL; split <;> simp_all
def wrongD (neg : Bool) (d : Bs) : Prop := d = [] ∨ 9 < d.length ∨ (d.head? = some 48 ∧ (1 < d.length ∨ neg = true))
instance (neg : Bool) (d : Bs) : Decidable (wrongD neg d) := by unfold wrongD; infer_instance
theorem parseD_wrong {neg : Bool} {d : Bs} (h : wrongD neg d) : parseD neg d = none := by unfold parseD; exact if_pos h
theorem parseD_ok {neg : Bool} {d : Bs} (h : ¬ wrongD neg d) : parseD neg d = if d.all digU then some (if neg then -(numOf d : Int) else (numOf d : Int)) else none := by unfold parseD; exact if_neg h
theorem numOf_take {d : Bs} {k : Nat} (h : k < d.length) : numOf (d.take (k + 1)) = 10 * numOf (d.take k) + (d[k].toNat - 48) := by
  unfold numOf
  rw [List.take_succ_eq_append_getElem h, List.foldl_append]; rfl
theorem numOf_lt {d : Bs} : ∀ k, k ≤ d.length → (d.take k).all digU = true → numOf (d.take k) < 10 ^ k
  | 0, _, _ => by simp [numOf]
  | k + 1, h, ha => by
    have hk : k < d.length := h
    rw [List.take_succ_eq_append_getElem hk, List.all_append] at ha
    simp only [List.all_cons, List.all_nil, Bool.and_true, Bool.and_eq_true] at ha
    have ih := numOf_lt k (by omega) ha.1
    rw [numOf_take hk, Nat.pow_succ]
    have := ha.2
    unfold digU at this
    simp only [Bool.and_eq_true, decide_eq_true_eq] at this
    omega
theorem bytes_startD (w : World) (d : Bs) (cap : Nat) (t : TypeId) : Below w.heap.size w (w.drew.alloc (.cells (bytesRow (bz d) cap) t ((bytesRow (bz d) cap).size, (bytesRow (bz d) cap).size + 1))) ∧ ∀ k (hk : k < d.length), (w.drew.alloc (.cells (bytesRow (bz d) cap) t ((bytesRow (bz d) cap).size, (bytesRow (bz d) cap).size + 1))).cell? ⟨w.heap.size, k, none⟩ = some (.int .u8 (d[k].toNat : Nat)) := by
  refine ⟨((Below.refl _ w).drew.alloc (Nat.le_refl _) _), fun k hk => ?_⟩
  have h : (w.drew.alloc (.cells (bytesRow (bz d) cap) t ((bytesRow (bz d) cap).size, (bytesRow (bz d) cap).size + 1))).heap[w.heap.size]? = some (.cells (bytesRow (bz d) cap) t ((bytesRow (bz d) cap).size, (bytesRow (bz d) cap).size + 1)) := by
    show (w.drew.heap.push _)[w.drew.heap.size]? = _
    exact Array.getElem?_push_size
  rw [cell_of_row _ _ _ _ _ _ h, bytesRow_at (bz d) cap k hk]
  rfl
def ParsePost (a : Bs) (n : Int) (w : World) (e : Ending) (w' : World) : Prop :=
  (match parseL a with | some x => e = .returned (.int .i64 x) | none => e = .panicked (flt 1 n)) ∧ Below w.heap.size w w'
set_option maxRecDepth 100000 in
set_option maxHeartbeats 4000000 in
theorem parse_any (a : Bs) (n : Int) (w : World) : Calls Tryd.prog 30 #[sv a, .int .i64 n] w (ParsePost a n w) := by
  have HC := Lib.hid (fun w => CutPrefix_any a w)
  have HF := Lib.hid (fun w => fail_any 1 n w)
  have HD := Lib.hid (fun c w => IsDigit_any c w)
  have Hp := Lib.hid (parseL_eq a)
  obtain ⟨d, hd⟩ : ∃ d, d = restB a := ⟨_, rfl⟩
  obtain ⟨neg, hneg⟩ : ∃ b, b = minusB a := ⟨_, rfl⟩
  rw [← hd, ← hneg] at HC Hp
  clear hd hneg
  by_cases hw : wrongD neg d
  · have Hn := Lib.hid (Hp.out.trans (parseD_wrong hw))
    have Hpost := Lib.hid (show ∀ w', Below w.heap.size w w' → ParsePost a n w (.panicked (flt 1 n)) w' from fun w' hb => by unfold ParsePost; rw [Hn.out]; exact ⟨rfl, hb⟩)
    have hcase : d = [] ∨ (d ≠ [] ∧ 9 < d.length) ∨ (d ≠ [] ∧ ¬ 9 < d.length ∧ d.head? = some 48 ∧ 1 < d.length) ∨ (d ≠ [] ∧ ¬ 9 < d.length ∧ d.head? = some 48 ∧ ¬ 1 < d.length ∧ neg = true) := by
      by_cases h0 : d = [] <;> by_cases h9 : 9 < d.length <;> by_cases h1 : 1 < d.length <;> simp_all [wrongD]
    clear hw Hn
    rcases hcase with rfl | ⟨h0, h9⟩ | ⟨h0, h9, hh, h1⟩ | ⟨h0, h9, hh, h1, rfl⟩
    · have hE : (bz []).toList.isEmpty = true := by rw [bz_toList]; rfl
      go_enter Tryd.func30, Tryd.ntmps30
      go_wp2_with (first
        | (go_at_call 49; refine (HC.out _).mono ?_; rintro e w1 ⟨rfl, rfl⟩)
        | (go_at_call 31; refine (HF.out _).mono ?_; rintro e w1 ⟨rfl, rfl⟩))
      exact ⟨rfl, Hpost.out _ (Below.refl _ _)⟩
    · have hE : (bz d).toList.isEmpty = false := by rw [bz_toList]; cases d <;> simp_all
      have hs9 : (9 : Int) < ((bz d).size : Int) := by rw [bz_size]; omega
      clear h0 h9
      go_enter Tryd.func30, Tryd.ntmps30
      go_wp2_with (first
        | (go_at_call 49; refine (HC.out _).mono ?_; rintro e w1 ⟨rfl, rfl⟩)
        | (go_at_call 31; refine (HF.out _).mono ?_; rintro e w1 ⟨rfl, rfl⟩))
      exact ⟨rfl, Hpost.out _ (Below.refl _ _)⟩
    · have hE : (bz d).toList.isEmpty = false := by rw [bz_toList]; cases d <;> simp_all
      have hs9 : decide ((9 : Int) < ((bz d).size : Int)) = false := by rw [bz_size]; simp; omega
      have hs0 : 0 < (bz d).size := by rw [bz_size]; exact List.length_pos_iff.2 h0
      have h48 : (((bz d)[0].toNat : Int) == 48) = true := by
        cases d with
        | nil => cases hs0
        | cons c r => simp only [List.head?_cons, Option.some.injEq] at hh; subst hh; rfl
      have hs1 : (1 : Int) < ((bz d).size : Int) := by rw [bz_size]; omega
      clear h0 h9 h1 hh
      go_enter Tryd.func30, Tryd.ntmps30
      go_wp2_with (first
        | (go_at_call 49; refine (HC.out _).mono ?_; rintro e w1 ⟨rfl, rfl⟩)
        | (go_at_call 31; refine (HF.out _).mono ?_; rintro e w1 ⟨rfl, rfl⟩))
      exact ⟨rfl, Hpost.out _ (Below.refl _ _)⟩
    · have hE : (bz d).toList.isEmpty = false := by rw [bz_toList]; cases d <;> simp_all
      have hs9 : decide ((9 : Int) < ((bz d).size : Int)) = false := by rw [bz_size]; simp; omega
      have hs0 : 0 < (bz d).size := by rw [bz_size]; exact List.length_pos_iff.2 h0
      have h48 : (((bz d)[0].toNat : Int) == 48) = true := by
        cases d with
        | nil => cases hs0
        | cons c r => simp only [List.head?_cons, Option.some.injEq] at hh; subst hh; rfl
      have hs1 : ¬ ((1 : Int) < ((bz d).size : Int)) := by rw [bz_size]; omega
      clear h0 h9 h1 hh
      go_enter Tryd.func30, Tryd.ntmps30
      go_wp2_with (first
        | (go_at_call 49; refine (HC.out _).mono ?_; rintro e w1 ⟨rfl, rfl⟩)
        | (go_at_call 31; refine (HF.out _).mono ?_; rintro e w1 ⟨rfl, rfl⟩))
      exact ⟨rfl, Hpost.out _ (Below.refl _ _)⟩
  · have Hn := Lib.hid (Hp.out.trans (parseD_ok hw))
    have h0 : d ≠ [] := fun e => hw (.inl e)
    have h9 : d.length ≤ 9 := by
      rcases Nat.lt_or_ge 9 d.length with h | h
      · exact absurd (.inr (.inl h)) hw
      · exact h
    have hE : (bz d).toList.isEmpty = false := by rw [bz_toList]; cases d <;> simp_all
    have hs9 : decide ((9 : Int) < ((bz d).size : Int)) = false := by rw [bz_size]; simp; omega
    have hs0 : 0 < (bz d).size := by rw [bz_size]; exact List.length_pos_iff.2 h0
    have hcase : ∃ b : Bool, (((bz d)[0].toNat : Int) == 48) = b ∧ (b = true → decide ((1 : Int) < ((bz d).size : Int)) = false ∧ neg = false) := by
      refine ⟨_, rfl, fun hb => ?_⟩
      have hh : d.head? = some 48 := by
        cases d with
        | nil => cases hs0
        | cons c r =>
          have : (c.toNat : Int) = 48 := beq_iff_eq.1 hb
          have : c = 48 := UInt8.toNat_inj.1 (by show c.toNat = 48; omega)
          rw [this]; rfl
      refine ⟨decide_eq_false fun h1 => hw (.inr (.inr ⟨hh, .inl (by rw [bz_size] at h1; omega)⟩)), ?_⟩
      cases hneg : neg with
      | false => rfl
      | true => exact absurd (.inr (.inr ⟨hh, .inr hneg⟩)) hw
    obtain ⟨b, h48, hb⟩ := hcase
    have hl9 := Lib.hid h9
    clear hw h0 h9
    have hcv := run_bytes_of_string (P := Tryd.prog) w 9 80 5 (bz d) Tryd.underlying9 Tryd.underlying80 Tryd.underlying5
    obtain ⟨HB, HX⟩ := bytes_startD w d (grownCap w (bz d).size 0 5) 5
    replace HB := Lib.hid HB
    replace HX := Lib.hid HX
    generalize grownCap w (bz d).size 0 5 = cap at hcv HB HX
    generalize (w.drew.alloc (.cells (bytesRow (bz d) cap) 5 ((bytesRow (bz d) cap).size, (bytesRow (bz d) cap).size + 1))) = w2 at hcv HB HX
    have Hn' := Lib.hid (show ∀ w', Below w.heap.size w w' → d.all digU = false → ParsePost a n w (.panicked (flt 1 n)) w' from fun w' hb h => by unfold ParsePost; rw [Hn.out, h]; exact ⟨rfl, hb⟩)
    have Hy := Lib.hid (show ∀ w', Below w.heap.size w w' → d.all digU = true → ParsePost a n w (.returned (.int .i64 (if neg then -(numOf d : Int) else (numOf d : Int)))) w' from fun w' hb h => by unfold ParsePost; rw [Hn.out, h]; exact ⟨rfl, hb⟩)
    have Hlt := Lib.hid (fun k (hk : k ≤ d.length) (h : (d.take k).all digU = true) => Nat.lt_of_lt_of_le (numOf_lt k hk h) (Nat.pow_le_pow_right (n := 10) (by omega) (show k ≤ 9 by have := hl9.out; omega)))
    obtain ⟨R, hR⟩ : ∃ R, R = w.heap.size := ⟨_, rfl⟩
    rw [← hR] at hcv HX
    have HR := Lib.hid hR
    clear Hn hR Hp
    cases b
    all_goals
      try have hs1 := (hb rfl).1
      try obtain rfl := (hb rfl).2
      clear hb
      go_enter Tryd.func30, Tryd.ntmps30
      go_wp2_with (first
        | (go_at_call 49; refine (HC.out _).mono ?_; rintro e w1 ⟨rfl, rfl⟩)
        | (go_at_call 31; refine (HF.out _).mono ?_; rintro e w1 ⟨rfl, rfl⟩))
      go_loopw [40, 7] (fun iv nv wr => ∃ k : Nat, k ≤ d.length ∧ iv = .int .i64 k ∧ nv = .int .i64 (numOf (d.take k) : Nat) ∧ Hid ((d.take k).all digU = true) ∧ wr = w2) (fun iv _ _ => d.length - (intOf iv).toNat)
      case atStart => exact ⟨0, Nat.zero_le _, rfl, rfl, rfl, rfl⟩
      case round =>
        obtain ⟨k, hk, rfl, rfl, HA, rfl⟩ := hrel
        by_cases hlt : k < d.length
        · have hc := HX.out k hlt
          have hks : (k : Int) < ((bz d).size : Int) := by rw [bz_size]; omega
          have hk9 : k < 9 := by have := hl9.out; omega
          have HT := Lib.hid (numOf_take hlt)
          have HE := Lib.hid (show (d.take (k + 1)).all digU = ((d.take k).all digU && digU d[k]) by rw [List.take_succ_eq_append_getElem hlt, List.all_append]; simp)
          have Hdg := Lib.hid (dig_eqU d[k])
          have HN := Lib.hid (show digU d[k] = false → d.all digU = false from fun h => List.all_eq_false.2 ⟨d[k], List.getElem_mem hlt, by rw [h]; simp⟩)
          have hx := d[k].toNat_lt
          have hn9 := Hlt.out k hk HA.out
          obtain ⟨c, hcc⟩ : ∃ c, c = d[k] := ⟨_, rfl⟩
          rw [← hcc] at hc HT HE Hdg HN hx
          clear hcc
          obtain ⟨m, hm⟩ : ∃ m, m = numOf (d.take k) := ⟨_, rfl⟩
          rw [← hm] at HT hn9 ⊢
          clear hm
          obtain ⟨x, hxc⟩ : ∃ x, x = c.toNat := ⟨_, rfl⟩
          rw [← hxc] at hc HT hx Hdg
          cases hdc : digU c with
          | false =>
            rw [hdc] at Hdg
            have Hf := Lib.hid (HN.out hdc)
            clear hdc hxc
            go_wp2_with (first
              | (go_at_call 50; refine (HD.out _ _).mono ?_; rintro e w1 ⟨rfl, rfl⟩; rw [Hdg.out])
              | (go_at_call 31; refine (HF.out _).mono ?_; rintro e w1 ⟨rfl, rfl⟩))
            exact ⟨rfl, Hn'.out _ HB.out Hf.out⟩
          | true =>
            rw [hdc] at Hdg
            have h2 : 48 ≤ x ∧ x ≤ 57 := by
              unfold digU at hdc
              simp only [Bool.and_eq_true, decide_eq_true_eq] at hdc
              omega
            have HE2 := Lib.hid (show (d.take (k + 1)).all digU = true by rw [HE.out, HA.out, hdc]; rfl)
            have e1 : IntKind.u8.wrap ((x : Int) - 48) = (x : Int) - 48 := by rw [IntKind.wrap_u8]; omega
            have e2 : IntKind.i64.wrap ((x : Int) - 48) = (x : Int) - 48 := by rw [IntKind.wrap_i64]; omega
            have e3 : IntKind.i64.wrap (10 * (m : Int)) = 10 * (m : Int) := by rw [IntKind.wrap_i64]; omega
            have e4 : IntKind.i64.wrap (10 * (m : Int) + ((x : Int) - 48)) = 10 * (m : Int) + ((x : Int) - 48) := by rw [IntKind.wrap_i64]; omega
            clear hdc hxc
            go_wp2_with (go_at_call 50; refine (HD.out _ _).mono ?_; rintro e w1 ⟨rfl, rfl⟩; rw [Hdg.out])
            go_roundw
            case rel => exact ⟨k + 1, by omega, by go_num, by rw [HT.out]; simp; omega, HE2, trivial⟩
            case measure => simp [intOf]; omega
        · obtain rfl : k = d.length := by omega
          have hks : ¬ (((d.length : Nat) : Int) < ((bz d).size : Int)) := by rw [bz_size]; omega
          have HAll := Lib.hid (show d.all digU = true by have := HA.out; rwa [List.take_length] at this)
          have HN := Lib.hid (show numOf (d.take d.length) = numOf d by rw [List.take_length])
          have Hp := Lib.hid (Hy.out _ HB.out HAll.out)
          have hn9 := Hlt.out _ hk HA.out
          rw [HN.out] at hn9 ⊢
          have ew : IntKind.i64.wrap (-(numOf d : Int)) = -(numOf d : Int) := by rw [IntKind.wrap_i64]; omega
          first
            | (cases neg
               all_goals
                 go_wp2
                 go_ret
                 exact Hp.out)
            | (go_wp2
               go_ret
               exact Hp.out)
end Go.Proofs.YtgfbmidpiamkhaaDoor
