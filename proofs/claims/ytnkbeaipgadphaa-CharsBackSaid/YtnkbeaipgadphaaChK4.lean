/- CharsApart: the law, walked. -/
import Derived.Test.YtnkbeaipgadphaaChK3
namespace Go.Proofs.Ytnkbeaipgadphaa
open Go.RowKit
open C01

def encZ (n : Int) : List Int := if n < 128 then [n] else if n < 2048 then [192 + n / 64, 128 + n % 64] else if n < 65536 then [224 + n / 4096, 128 + n / 64 % 64, 128 + n % 64] else [240 + n / 262144, 128 + n / 4096 % 64, 128 + n / 64 % 64, 128 + n % 64]
def decZ (l : List Int) : Int :=
  if l.getD 0 0 < 128 then l.getD 0 0 else if l.getD 0 0 < 224 then (l.getD 0 0 - 192) * 64 + (l.getD 1 0 - 128) else if l.getD 0 0 < 240 then (l.getD 0 0 - 224) * 4096 + (l.getD 1 0 - 128) * 64 + (l.getD 2 0 - 128)
  else (l.getD 0 0 - 240) * 262144 + (l.getD 1 0 - 128) * 4096 + (l.getD 2 0 - 128) * 64 + (l.getD 3 0 - 128)
theorem ok_bounds {n : Int} (h : letterOk n = true) : 0 ≤ n ∧ n ≤ 1114111 ∧ (n < 55296 ∨ 57343 < n) := by
  have h' : n = 9 ∨ n = 10 ∨ n = 13 ∨ (32 ≤ n ∧ n ≤ 1114111 ∧ ¬ (55296 ≤ n ∧ n ≤ 57343)) := of_decide_eq_true h
  omega
theorem letterS_enc {n : Int} (h : letterOk n = true) : letterS n = txt ((encZ n).map zB) := by
  obtain ⟨h0, h1, h2⟩ := ok_bounds h
  unfold letterS encZ
  rw [if_pos h]
  rcases (show n < 128 ∨ (128 ≤ n ∧ n < 2048) ∨ (2048 ≤ n ∧ n < 65536) ∨ 65536 ≤ n by omega) with h3 | h3 | h3 | h3
  · rw [if_pos h3, enc_one h0 h3]; rfl
  · rw [if_neg (by omega), if_pos (by omega), enc_two h3.1 h3.2]; rfl
  · rw [if_neg (by omega), if_neg (by omega), if_pos (by omega), enc_three h3.1 h3.2 h2]; rfl
  · rw [if_neg (by omega), if_neg (by omega), if_neg (by omega), enc_four h3 h1]; rfl
theorem encZ_bytes {n : Int} (h : letterOk n = true) : ∀ x ∈ encZ n, 0 ≤ x ∧ x < 256 := by
  obtain ⟨h0, h1, h2⟩ := ok_bounds h
  unfold encZ
  repeat' split
  all_goals
    simp only [List.mem_cons, List.not_mem_nil, or_false]
    intro x hx
    omega
theorem decZ_encZ {n : Int} (h : letterOk n = true) (r : List Int) : decZ (encZ n ++ r) = n := by
  obtain ⟨h0, h1, h2⟩ := ok_bounds h
  unfold encZ
  repeat' split
  all_goals
    simp only [decZ, List.cons_append, List.nil_append, List.getD_cons_zero, List.getD_cons_succ]
    repeat' (first | omega | split)
theorem ints_zB {l : List Int} (h : ∀ x ∈ l, 0 ≤ x ∧ x < 256) : (l.map zB).map (fun b => (b.toNat : Int)) = l := by
  rw [List.map_map]
  conv => rhs; rw [← List.map_id l]
  apply List.map_congr_left
  intro x hx
  exact zB_toNat (h x hx).1 (h x hx).2
theorem apart {a b : Int} (ha : letterOk a = true) (hb : letterOk b = true) (hne : a ≠ b) : ¬ (letterS b).extract 0 (letterS a).size = letterS a := by
  intro e
  rw [letterS_enc ha, letterS_enc hb] at e
  have e2 := congrArg (fun s : ByteArray => s.data.toList) e
  simp only [txt, ByteArray.data_extract, Array.toList_extract, List.extract_eq_take_drop, List.drop_zero, Nat.sub_zero] at e2
  have e3 := List.take_append_drop (txt ((encZ a).map zB)).size ((encZ b).map zB)
  have e4 : (List.map zB (encZ b)) = (List.map zB (encZ a)) ++ ((encZ b).map zB).drop (txt ((encZ a).map zB)).size := by
    conv => lhs; rw [← e3]
    congr 1
  have e5 := congrArg (fun l : List UInt8 => decZ (l.map fun b => (b.toNat : Int))) e4
  simp only [List.map_append] at e5
  rw [ints_zB (encZ_bytes ha), ints_zB (encZ_bytes hb), decZ_encZ ha] at e5
  have e6 := decZ_encZ hb []
  rw [List.append_nil] at e6
  exact hne (by rw [← e5, e6])
set_option maxHeartbeats 1000000 in
theorem walk_CharsApart (W : World) (v0 v1 : Value) (a0 : Arg Try.prog W 3 v0) (a1 : Arg Try.prog W 3 v1) : Calls Try.prog 4 #[v0, v1] W fun e W' => e = .returned (.bool true) ∧ Below W.heap.size W W' := by
  obtain ⟨a, rfl, ha⟩ := arg_int a0
  obtain ⟨b, rfl, hb⟩ := arg_int a1
  clear a0 a1
  have H1 := Lib.hid (fun w => Letter_any a w ha)
  have H2 := Lib.hid (fun w => Letter_any b w hb)
  have HL := Lib.hid (fun w => lives_any w)
  have hapart : letterOk a = true → letterOk b = true → a ≠ b → (¬ (letterS b).extract 0 (letterS a).size = letterS a) ∧ (¬ (letterS a).extract 0 (letterS b).size = letterS b) := fun h1 h2 h3 => ⟨apart h1 h2 h3, apart h2 h1 (fun e => h3 e.symm)⟩
  generalize letterS a = s at H1 hapart
  generalize letterS b = t at H2 hapart
  generalize letterOk a = p at H1 hapart
  generalize letterOk b = q at H2 hapart
  rcases Classical.em (p = true ∧ q = true ∧ a ≠ b) with ⟨hp, hq, hab⟩ | hno
  · subst hp hq
    obtain ⟨h1, h2⟩ := hapart rfl rfl hab
    clear hapart
    have eab : (a == b) = false := by rw [beq_eq_false_iff_ne]; exact hab
    clear hab
    have g1 := str_ne (s := t.extract 0 s.size) (l := s.toList) (by rw [ByteArray.toList_eq]; exact h1)
    have g2 := str_ne (s := s.extract 0 t.size) (l := t.toList) (by rw [ByteArray.toList_eq]; exact h2)
    clear h1 h2
    rcases (show s.size < t.size ∨ t.size < s.size ∨ (s.size ≤ t.size ∧ t.size ≤ s.size) by omega) with h | h | ⟨h, h2⟩
    all_goals
      go_enter Try.func4, Try.ntmps4
      go_wp2_with (first
        | (go_at_call 13; with_reducible refine (H1.out _).mono ?_; rintro e w1 ⟨rfl, hb⟩; have HB := Lib.hid hb; clear hb)
        | (go_at_call 13; with_reducible refine (H2.out _).mono ?_; rintro e w2 ⟨rfl, hb⟩; have HB2 := Lib.hid hb; clear hb)
        | (go_at_call 15; with_reducible refine (HL.out _).mono ?_; rintro e w3 ⟨rfl, hb⟩; have HB3 := Lib.hid hb; clear hb))
      go_ret
      exact ⟨rfl, HB.out.trans ((HB2.out.mono HB.out.size).trans (HB3.out.mono (Nat.le_trans HB.out.size HB2.out.size)))⟩
  · have hno' : p = false ∨ (p = true ∧ q = false) ∨ (p = true ∧ q = true ∧ a = b) := by
      cases p
      · exact .inl rfl
      · cases q
        · exact .inr (.inl ⟨rfl, rfl⟩)
        · exact .inr (.inr ⟨rfl, rfl, Classical.byContradiction fun h => hno ⟨rfl, rfl, h⟩⟩)
    clear hno hapart
    rcases hno' with rfl | ⟨rfl, rfl⟩ | ⟨rfl, rfl, rfl⟩
    · go_enter Try.func4, Try.ntmps4
      go_wp2_with (first
        | (go_at_call 13; with_reducible refine (H1.out _).mono ?_; rintro e w1 ⟨rfl, hb⟩; have HB := Lib.hid hb; clear hb)
        | (go_at_call 13; with_reducible refine (H2.out _).mono ?_; rintro e w2 ⟨rfl, hb⟩; have HB2 := Lib.hid hb; clear hb)
        | (go_at_call 15; with_reducible refine (HL.out _).mono ?_; rintro e w3 ⟨rfl, hb⟩; have HB3 := Lib.hid hb; clear hb))
      go_ret
      exact ⟨rfl, HB.out.trans ((HB2.out.mono HB.out.size).trans (HB3.out.mono (Nat.le_trans HB.out.size HB2.out.size)))⟩
    · go_enter Try.func4, Try.ntmps4
      go_wp2_with (first
        | (go_at_call 13; with_reducible refine (H1.out _).mono ?_; rintro e w1 ⟨rfl, hb⟩; have HB := Lib.hid hb; clear hb)
        | (go_at_call 13; with_reducible refine (H2.out _).mono ?_; rintro e w2 ⟨rfl, hb⟩; have HB2 := Lib.hid hb; clear hb)
        | (go_at_call 15; with_reducible refine (HL.out _).mono ?_; rintro e w3 ⟨rfl, hb⟩; have HB3 := Lib.hid hb; clear hb))
      go_ret
      exact ⟨rfl, HB.out.trans ((HB2.out.mono HB.out.size).trans (HB3.out.mono (Nat.le_trans HB.out.size HB2.out.size)))⟩
    · go_enter Try.func4, Try.ntmps4
      go_wp2_with fail
      refine (H1.out _).mono ?_
      rintro e w1 ⟨rfl, hb⟩
      have HB := Lib.hid hb
      clear hb
      go_wp2_with fail
      refine (H1.out _).mono ?_
      rintro e w2 ⟨rfl, hb⟩
      have HB2 := Lib.hid hb
      clear hb
      go_wp2_with fail
      refine (HL.out _).mono ?_
      rintro e w3 ⟨rfl, hb⟩
      have HB3 := Lib.hid hb
      clear hb
      go_wp2
      go_ret
      exact ⟨rfl, HB.out.trans ((HB2.out.mono HB.out.size).trans (HB3.out.mono (Nat.le_trans HB.out.size HB2.out.size)))⟩
end Go.Proofs.Ytnkbeaipgadphaa
