/- CharsBack: the law, walked. -/
import Derived.Test.YtnkbeaipgadphaaChK9
namespace Go.Proofs.Ytnkbeaipgadphaa
open Go.RowKit
open C01

/-- an escaped byte: itself, or a reference to it -/
theorem esc_ref (attr : Bool) (c : UInt8) : (escB attr c = [c] ∧ c ≠ 38 ∧ c ≠ 60 ∧ c ≠ 62 ∧ (attr = true → c ≠ 34)) ∨ ((∃ e, escB attr c = 38 :: e) ∧ ∀ (s : ByteArray) (r : List UInt8), s.data.toList = escB attr c ++ r → refR s = (⟨#[c]⟩, ((escB attr c).length : Int), 0)) := by
  by_cases h38 : c = 38
  · subst h38
    right
    have e : escB attr 38 = [38, 97, 109, 112, 59] := by cases attr <;> rfl
    rw [e]
    exact ⟨⟨_, rfl⟩, fun s r hs => refR_named (k := 2) (by omega) hs⟩
  by_cases h60 : c = 60
  · subst h60
    right
    have e : escB attr 60 = [38, 108, 116, 59] := by cases attr <;> rfl
    rw [e]
    exact ⟨⟨_, rfl⟩, fun s r hs => refR_named (k := 0) (by omega) hs⟩
  by_cases h62 : c = 62
  · subst h62
    right
    have e : escB attr 62 = [38, 103, 116, 59] := by cases attr <;> rfl
    rw [e]
    exact ⟨⟨_, rfl⟩, fun s r hs => refR_named (k := 1) (by omega) hs⟩
  by_cases h13 : c = 13
  · subst h13
    right
    have e : escB attr 13 = [38, 35, 49, 51, 59] := by cases attr <;> rfl
    rw [e]
    refine ⟨⟨_, rfl⟩, fun s r hs => ?_⟩
    rw [refR_dec (D := [49, 51]) (r := r) hs (by decide) (by decide) (by decide) (by decide)]
    decide +kernel
  by_cases h34 : attr = true ∧ c = 34
  · obtain ⟨rfl, rfl⟩ := h34
    right
    have e : escB true 34 = [38, 113, 117, 111, 116, 59] := rfl
    rw [e]
    exact ⟨⟨_, rfl⟩, fun s r hs => refR_named (k := 3) (by omega) hs⟩
  by_cases h9 : attr = true ∧ c = 9
  · obtain ⟨rfl, rfl⟩ := h9
    right
    have e : escB true 9 = [38, 35, 57, 59] := rfl
    rw [e]
    refine ⟨⟨_, rfl⟩, fun s r hs => ?_⟩
    rw [refR_dec (D := [57]) (r := r) hs (by decide) (by decide) (by decide) (by decide)]
    decide +kernel
  by_cases h10 : attr = true ∧ c = 10
  · obtain ⟨rfl, rfl⟩ := h10
    right
    have e : escB true 10 = [38, 35, 49, 48, 59] := rfl
    rw [e]
    refine ⟨⟨_, rfl⟩, fun s r hs => ?_⟩
    rw [refR_dec (D := [49, 48]) (r := r) hs (by decide) (by decide) (by decide) (by decide)]
    decide +kernel
  left
  refine ⟨?_, h38, h60, h62, fun h1 h2 => h34 ⟨h1, h2⟩⟩
  unfold escB
  rw [if_neg h38, if_neg h60, if_neg h62, if_neg h13, if_neg h34, if_neg h9, if_neg h10]
def escP (attr : Bool) (s : ByteArray) (j : Nat) : Nat := (escL attr (s.data.toList.take j)).length
/-- what stands at a place of the escaped text -/
theorem esc_at {attr : Bool} {s t : ByteArray} {j : Nat} (hj : j < s.size) (ht : t = txt (escL attr s.data.toList)) :
    ∃ c : UInt8, (s.data.toList.take (j + 1) = s.data.toList.take j ++ [c]) ∧ escP attr s (j + 1) = escP attr s j + (escB attr c).length ∧ (∃ r, (t.extract (escP attr s j) t.size).data.toList = escB attr c ++ r) ∧ escP attr s j < t.size ∧
      ∀ x e, escB attr c = x :: e → byteN t (escP attr s j) = x.toNat := by
  have h' : j < s.data.toList.length := by rw [Array.length_toList]; exact hj
  have hts : escL attr (s.data.toList.take (j + 1)) = escL attr (s.data.toList.take j) ++ escB attr s.data.toList[j] := escL_succ h'
  have htl : t.data.toList = escL attr (s.data.toList.take j) ++ (escB attr s.data.toList[j] ++ escL attr (s.data.toList.drop (j + 1))) := by
    rw [ht, txt_list, ← List.append_assoc, ← hts]
    unfold escL
    rw [← List.flatMap_append, List.take_append_drop]
  have hne : ∃ x e, escB attr s.data.toList[j] = x :: e := by
    rcases esc_ref attr s.data.toList[j] with h | h
    · exact ⟨_, _, h.1⟩
    · obtain ⟨⟨e, he⟩, _⟩ := h; exact ⟨_, _, he⟩
  have hsz := size_of htl
  refine ⟨s.data.toList[j], List.take_succ_eq_append_getElem h', ?_, ⟨escL attr (s.data.toList.drop (j + 1)), ?_⟩, ?_, fun x e he => ?_⟩
  · unfold escP; rw [hts, List.length_append]
  · rw [ByteArray.data_extract, Array.toList_extract, List.extract_eq_take_drop, htl]
    unfold escP
    rw [List.drop_left]
    apply List.take_of_length_le
    rw [hsz]
    simp only [List.length_append]
    omega
  · obtain ⟨x, e, he⟩ := hne
    rw [hsz, he, List.length_append, List.length_append, List.length_cons]
    unfold escP
    omega
  · unfold byteN escP
    rw [htl, he]
    simp
theorem back_one {t : ByteArray} {p : Nat} {c : UInt8} (h : p < t.size) (hc : byteN t p = c.toNat) : t.extract p (p + 1) = ⟨#[c]⟩ := by
  obtain ⟨d, h1, h2⟩ := one_byte h
  rw [h1]
  congr 2
  rw [hc] at h2
  simp [UInt8.toNat_inj.1 h2]
theorem back_out {s o : ByteArray} {j : Nat} {c : UInt8} (ho : o = txt (s.data.toList.take j)) (h : s.data.toList.take (j + 1) = s.data.toList.take j ++ [c]) : o ++ ⟨#[c]⟩ = txt (s.data.toList.take (j + 1)) := by
  rw [ho, h, ← txt_append]; rfl
theorem escL_pre (attr : Bool) (l : List UInt8) (j : Nat) : (escL attr (l.take j)).length ≤ (escL attr l).length := by
  have : escL attr l = escL attr (l.take j) ++ escL attr (l.drop j) := by unfold escL; rw [← List.flatMap_append, List.take_append_drop]
  rw [this, List.length_append]
  omega
theorem back_size (s : ByteArray) (j : Nat) : (txt (s.data.toList.take j)).size ≤ s.size := by
  rw [txt_size, List.length_take, Array.length_toList]
  exact Nat.min_le_right _ _
set_option maxHeartbeats 2000000 in
theorem walk_CharsBack (W : World) (v0 v1 : Value) (a0 : Arg Try.prog W 9 v0) (a1 : Arg Try.prog W 4 v1) : Calls Try.prog 8 #[v0, v1] W fun e W' => e = .returned (.bool true) ∧ Below W.heap.size W W' := by
  obtain ⟨s, rfl⟩ := arg_string a0
  obtain ⟨attr, rfl⟩ := arg_bool a1
  clear a0 a1
  have H0 := Lib.hid (fun w => cut_any s w)
  have hs := cutS_size s
  generalize cutS s = q at H0 hs
  have HL := Lib.hid (fun w => lives_any w)
  have H1 := Lib.hid (fun w => Escape_any q attr w (by omega))
  have H1 := Lib.hid (show ∀ w, Calls Try.prog 19 #[.string q, .bool attr] w fun e w' => e = .returned (.string (txt (escL attr q.data.toList))) ∧ Below w.heap.size w w' from H1.out)
  obtain ⟨t, ht⟩ : ∃ t, t = txt (escL attr q.data.toList) := ⟨_, rfl⟩
  rw [← ht] at H1
  have htz : t.size ≤ 18000 := by
    rw [ht, txt_size]
    have := escL_le attr q.data.toList
    have h2 : q.data.toList.length = q.size := Array.length_toList
    omega
  have Ht := Lib.hid ht
  clear ht
  go_enter Try.func8, Try.ntmps8
  go_wp2_with (first
    | (go_at_call 16; with_reducible refine (H0.out _).mono ?_; rintro e w1 ⟨rfl, rfl⟩)
    | (go_at_call 19; with_reducible refine (H1.out _).mono ?_; rintro e w1 ⟨rfl, hb⟩; have HB := Lib.hid hb; clear hb))
  go_loopw [7, 6] (fun iv ov wr => ∃ (j p : Nat) (o : ByteArray), j ≤ q.size ∧ p ≤ t.size ∧ o.size ≤ 3000 ∧ iv = .int .i64 p ∧ ov = .string o ∧ Hid (p = escP attr q j) ∧ Hid (o = txt (q.data.toList.take j)) ∧ Hid (Below W.heap.size W wr)) (fun iv _ _ => t.size - (intOf iv).toNat)
  case atStart => exact ⟨0, 0, ⟨#[]⟩, Nat.zero_le _, Nat.zero_le _, by decide, rfl, rfl, Lib.hid rfl, Lib.hid rfl, HB⟩
  case round =>
    obtain ⟨j, p, o, hjq, hpt, ho, rfl, rfl, HP, HO, HB2⟩ := hrel
    by_cases hj : j < q.size
    · obtain ⟨c, hc1, hc2, ⟨r, hc3⟩, hc4, hc5⟩ := esc_at hj Ht.out
      rw [← HP.out] at hc2 hc3 hc4 hc5
      have HC2 := Lib.hid hc2
      have HO2 := Lib.hid (back_out HO.out hc1)
      have hosz : (o ++ ⟨#[c]⟩).size ≤ 3000 := by rw [HO2.out]; have := back_size q (j + 1); omega
      have hosz := hosz
      clear hc1 hc2
      rcases esc_ref attr c with ⟨he, h38, h60, h62, h34⟩ | ⟨⟨e, he⟩, href⟩
      · have hb := hc5 c [] he
        rw [he] at HC2
        have hx := back_one hc4 hb
        have hbn := byteN_eq hc4
        rw [hb] at hbn
        have g38 : (((c.toNat : Nat) : Int) != 38) = true := bne_iff_ne.2 (fun h => h38 (UInt8.toNat_inj.1 (by show c.toNat = 38; omega)))
        have g60 : (((c.toNat : Nat) : Int) == 60) = false := beq_eq_false_iff_ne.2 (fun h => h60 (UInt8.toNat_inj.1 (by show c.toNat = 60; omega)))
        have g62 : (((c.toNat : Nat) : Int) == 62) = false := beq_eq_false_iff_ne.2 (fun h => h62 (UInt8.toNat_inj.1 (by show c.toNat = 62; omega)))
        have hoz : Hid ((o ++ ⟨#[c]⟩).size ≤ 3000) := Lib.hid hosz
        have HOs := Lib.hid (show o.size ≤ 3000 from ho)
        clear hosz hc3 hc5 he h38 h60 h62 hb
        rcases hat : attr with _ | _
        · subst hat
          clear h34
          go_wp2
          go_roundw
          case rel => exact ⟨j + 1, p + 1, o ++ ⟨#[c]⟩, by omega, by omega, hoz.out, by go_num, rfl, Lib.hid HC2.out.symm, HO2, HB2⟩
          case measure => simp [intOf]; omega
        · subst hat
          have g34 : (((c.toNat : Nat) : Int) == 34) = false := beq_eq_false_iff_ne.2 (fun h => h34 rfl (UInt8.toNat_inj.1 (by show c.toNat = 34; omega)))
          clear h34
          go_wp2
          go_roundw
          case rel => exact ⟨j + 1, p + 1, o ++ ⟨#[c]⟩, by omega, by omega, hoz.out, by go_num, rfl, Lib.hid HC2.out.symm, HO2, HB2⟩
          case measure => simp [intOf]; omega
      · have hb := hc5 38 e he
        have hbn := byteN_eq hc4
        rw [hb] at hbn
        have hr := href _ r hc3
        have Hf := Lib.hid (fun w => Ref_any (t.extract p t.size) w (by rw [ByteArray.size_extract]; omega))
        rw [hr] at Hf
        have hel : 1 ≤ (escB attr c).length := by rw [he]; simp
        have hel6 := escB_le attr c
        generalize (escB attr c).length = n at HC2 Hf hel hel6
        have Hf := Lib.hid (show ∀ w, Calls Try.prog 17 #[.string (t.extract p t.size)] w fun e w' => e = .returned (.tuple #[.string ⟨#[c]⟩, .int .i64 (n : Int), .int .i64 0]) ∧ Below w.heap.size w w' from Hf.out)
        have hnx : Hid (p + n ≤ t.size) := Lib.hid (by
          rw [← HC2.out, Ht.out, txt_size]
          unfold escP
          have := escL_pre attr q.data.toList (j + 1)
          omega)
        have hnx2 := hnx.out
        have hoz : Hid ((o ++ ⟨#[c]⟩).size ≤ 3000) := Lib.hid hosz
        clear hosz hc3 hc5 he hb hr href
        rcases hat : attr with _ | _
        all_goals
          subst hat
          go_wp2_with (go_at_call 17; with_reducible refine (Hf.out _).mono ?_; rintro e w3 ⟨rfl, hb⟩; have HB3 := Lib.hid (HB2.out.trans (hb.mono HB2.out.size)); clear hb)
          go_roundw
          case rel => exact ⟨j + 1, p + n, o ++ ⟨#[c]⟩, by omega, hnx.out, hoz.out, by go_num, rfl, Lib.hid HC2.out.symm, HO2, HB3⟩
          case measure => simp [intOf]; omega
    · obtain rfl : j = q.size := by omega
      have hp : p = t.size := by
        rw [HP.out, Ht.out, txt_size]
        unfold escP
        rw [List.take_of_length_le (by rw [Array.length_toList]; exact Nat.le_refl _)]
      have ho2 : o = q := by
        rw [HO.out, List.take_of_length_le (by rw [Array.length_toList]; exact Nat.le_refl _)]
        exact txt_of q
      subst hp ho2
      go_wp2_with (go_at_call 15; with_reducible refine (HL.out _).mono ?_; rintro e w4 ⟨rfl, hb⟩; have HB4 := Lib.hid (HB2.out.trans (hb.mono HB2.out.size)); clear hb)
      go_ret
      exact ⟨rfl, HB4.out⟩
end Go.Proofs.Ytnkbeaipgadphaa
