/- pomaceref01.Escape. -/
import Derived.Test.YtnkbeaipgadphaaChW10
namespace Go.Proofs.Ytnkbeaipgadphaa
open Go.RowKit
open C01

theorem one_byte {s : ByteArray} {i : Nat} (h : i < s.size) : ∃ c : UInt8, s.extract i (i + 1) = ⟨#[c]⟩ ∧ c.toNat = byteN s i := by
  have h' : i < s.data.toList.length := by rw [Array.length_toList]; exact h
  refine ⟨s.data[i]'h, ?_, byteN_eq h⟩
  apply ByteArray.ext
  apply Array.ext'
  simp [ByteArray.data_extract]
  rw [List.take_one]
  simp [h]
def txt (l : List UInt8) : ByteArray := ⟨l.toArray⟩
theorem txt_size (l : List UInt8) : (txt l).size = l.length := by simp [txt, ByteArray.size]
theorem txt_append (a b : List UInt8) : txt a ++ txt b = txt (a ++ b) := by
  apply ByteArray.ext; apply Array.ext'; simp [txt]
theorem esc_out {attr : Bool} {s o : ByteArray} {i : Nat} {c : UInt8} {l : List UInt8} (hi : i < s.size) (hc : c.toNat = byteN s i) (hl : escB attr c = l) (ho : txt (escL attr (s.data.toList.take i)) = o) : o ++ txt l = txt (escL attr (s.data.toList.take (i + 1))) := by
  have h' : i < s.data.toList.length := by rw [Array.length_toList]; exact hi
  have e : s.data.toList[i] = c := by apply UInt8.toNat_inj.1; rw [hc]; unfold byteN; rw [List.getD_eq_getElem?_getD, List.getElem?_eq_getElem h']; rfl
  rw [escL_succ h', e, hl, ← ho, txt_append]
set_option maxHeartbeats 2000000 in
theorem refEscape_any (s : ByteArray) (attr : Bool) (w : World) (hs : s.size ≤ 1000000) : Calls Try.prog 20 #[.string s, .bool attr] w fun e w' => e = .returned (.string (txt (escL attr s.data.toList))) ∧ w = w' := by
  go_enter Try.func20, Try.ntmps20
  go_wp2
  go_loop [6, 5] (fun sv ov => ∃ i : Nat, i ≤ s.size ∧ sv = .int .i64 i ∧ ov = .string (txt (escL attr (s.data.toList.take i)))) (fun sv _ => s.size - (intOf sv).toNat)
  case atStart => exact ⟨0, Nat.zero_le _, rfl, rfl⟩
  case round =>
    obtain ⟨i, hile, rfl, rfl⟩ := hrel
    by_cases hil : i < s.size
    · obtain ⟨c, hx, hcx⟩ := one_byte hil
      have hlen : (txt (escL attr (s.data.toList.take i))).size ≤ 6000000 := by
        rw [txt_size]
        have := escL_le attr (s.data.toList.take i)
        have : (s.data.toList.take i).length ≤ i := by simp; omega
        omega
      obtain ⟨o, ho⟩ : ∃ o, txt (escL attr (s.data.toList.take i)) = o := ⟨_, rfl⟩
      rw [ho] at hlen ⊢
      have Ho := Lib.hid ho
      have Hcx := Lib.hid hcx
      clear ho hcx
      -- WAYS
      rcases Classical.em (c = 38) with h38 | h38
      · subst h38
        go_wp2
        go_round
        case rel => exact ⟨i + 1, by omega, by go_num, congrArg Value.string (esc_out hil Hcx.out (l := [38, 97, 109, 112, 59]) (by cases attr <;> rfl) Ho.out)⟩
        case measure => simp [intOf]; omega
      rcases Classical.em (c = 60) with h60 | h60
      · subst h60
        go_wp2
        go_round
        case rel => exact ⟨i + 1, by omega, by go_num, congrArg Value.string (esc_out hil Hcx.out (l := [38, 108, 116, 59]) (by cases attr <;> rfl) Ho.out)⟩
        case measure => simp [intOf]; omega
      rcases Classical.em (c = 62) with h62 | h62
      · subst h62
        go_wp2
        go_round
        case rel => exact ⟨i + 1, by omega, by go_num, congrArg Value.string (esc_out hil Hcx.out (l := [38, 103, 116, 59]) (by cases attr <;> rfl) Ho.out)⟩
        case measure => simp [intOf]; omega
      rcases Classical.em (c = 13) with h13 | h13
      · subst h13
        go_wp2
        go_round
        case rel => exact ⟨i + 1, by omega, by go_num, congrArg Value.string (esc_out hil Hcx.out (l := [38, 35, 49, 51, 59]) (by cases attr <;> rfl) Ho.out)⟩
        case measure => simp [intOf]; omega
      rcases Classical.em (c = 34) with h34 | h34
      · subst h34
        rcases hat : attr with _ | _
        · subst hat
          go_wp2
          go_round
          case rel => exact ⟨i + 1, by omega, by go_num, congrArg Value.string (esc_out hil Hcx.out (l := [34]) (rfl) Ho.out)⟩
          case measure => simp [intOf]; omega
        · subst hat
          go_wp2
          go_round
          case rel => exact ⟨i + 1, by omega, by go_num, congrArg Value.string (esc_out hil Hcx.out (l := [38, 113, 117, 111, 116, 59]) (rfl) Ho.out)⟩
          case measure => simp [intOf]; omega
      rcases Classical.em (c = 9) with h9 | h9
      · subst h9
        rcases hat : attr with _ | _
        · subst hat
          go_wp2
          go_round
          case rel => exact ⟨i + 1, by omega, by go_num, congrArg Value.string (esc_out hil Hcx.out (l := [9]) (rfl) Ho.out)⟩
          case measure => simp [intOf]; omega
        · subst hat
          go_wp2
          go_round
          case rel => exact ⟨i + 1, by omega, by go_num, congrArg Value.string (esc_out hil Hcx.out (l := [38, 35, 57, 59]) (rfl) Ho.out)⟩
          case measure => simp [intOf]; omega
      rcases Classical.em (c = 10) with h10 | h10
      · subst h10
        rcases hat : attr with _ | _
        · subst hat
          go_wp2
          go_round
          case rel => exact ⟨i + 1, by omega, by go_num, congrArg Value.string (esc_out hil Hcx.out (l := [10]) (rfl) Ho.out)⟩
          case measure => simp [intOf]; omega
        · subst hat
          go_wp2
          go_round
          case rel => exact ⟨i + 1, by omega, by go_num, congrArg Value.string (esc_out hil Hcx.out (l := [38, 35, 49, 48, 59]) (rfl) Ho.out)⟩
          case measure => simp [intOf]; omega
      have g38 : (c == 38) = false := beq_eq_false_iff_ne.2 h38
      have g60 : (c == 60) = false := beq_eq_false_iff_ne.2 h60
      have g62 : (c == 62) = false := beq_eq_false_iff_ne.2 h62
      have g13 : (c == 13) = false := beq_eq_false_iff_ne.2 h13
      have g34 : (c == 34) = false := beq_eq_false_iff_ne.2 h34
      have g9 : (c == 9) = false := beq_eq_false_iff_ne.2 h9
      have g10 : (c == 10) = false := beq_eq_false_iff_ne.2 h10
      have He := Lib.hid (show escB attr c = [c] by unfold escB; simp [h38, h60, h62, h13, h34, h9, h10])
      clear h38 h60 h62 h13 h34 h9 h10
      rcases hat : attr with _ | _
      · subst hat
        go_wp2
        go_round
        case rel => exact ⟨i + 1, by omega, by go_num, congrArg Value.string (esc_out hil Hcx.out (l := [c]) (He.out) Ho.out)⟩
        case measure => simp [intOf]; omega
      · subst hat
        go_wp2
        go_round
        case rel => exact ⟨i + 1, by omega, by go_num, congrArg Value.string (esc_out hil Hcx.out (l := [c]) (He.out) Ho.out)⟩
        case measure => simp [intOf]; omega
    · obtain rfl : i = s.size := by omega
      have hfull : s.data.toList.take s.size = s.data.toList := List.take_of_length_le (by rw [Array.length_toList]; exact Nat.le_refl _)
      rw [hfull]
      clear hfull
      go_wp2
      go_ret
      exact ⟨rfl, rfl⟩
end Go.Proofs.Ytnkbeaipgadphaa
