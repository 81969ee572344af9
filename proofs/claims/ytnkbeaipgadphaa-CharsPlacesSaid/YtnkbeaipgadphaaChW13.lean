/- pomaceref01.At: line and column. -/
import Derived.Test.YtnkbeaipgadphaaChW11
namespace Go.Proofs.Ytnkbeaipgadphaa
open Go.RowKit
open C01

def lnS (s : ByteArray) : Nat → Int
  | 0 => 1
  | k + 1 => if byteN s k = 10 then lnS s k + 1 else lnS s k
def clS (s : ByteArray) : Nat → Int
  | 0 => 1
  | k + 1 => if byteN s k = 10 then 1 else clS s k + 1
theorem lnS_range (s : ByteArray) : ∀ k : Nat, 1 ≤ lnS s k ∧ lnS s k ≤ k + 1
  | 0 => by simp [lnS]
  | k + 1 => by have := lnS_range s k; unfold lnS; split <;> omega
theorem clS_range (s : ByteArray) : ∀ k : Nat, 1 ≤ clS s k ∧ clS s k ≤ k + 1
  | 0 => by simp [clS]
  | k + 1 => by have := clS_range s k; unfold clS; split <;> omega
theorem up_one (s : ByteArray) (k : Nat) : lnS s k < lnS s (k + 1) ∨ (lnS s k = lnS s (k + 1) ∧ clS s k < clS s (k + 1)) := by
  simp only [lnS, clS]
  split
  · exact .inl (by omega)
  · exact .inr ⟨rfl, by omega⟩
theorem up_all (s : ByteArray) {j : Nat} : ∀ k : Nat, j < k → lnS s j < lnS s k ∨ (lnS s j = lnS s k ∧ clS s j < clS s k)
  | 0, h => absurd h (Nat.not_lt_zero _)
  | k + 1, h => by
    have h1 := up_one s k
    rcases Nat.lt_or_ge j k with hjk | hjk
    · have h2 := up_all s k hjk
      omega
    · obtain rfl : j = k := by omega
      exact h1
theorem ext_list (s : ByteArray) (o : Nat) : (s.extract 0 o).data.toList = s.data.toList.take o := by
  simp [ByteArray.data_extract]
theorem byte_is {s : ByteArray} {k : Nat} (h' : k < s.data.toList.length) : (s.data.toList[k] = 10) ↔ byteN s k = 10 := by
  unfold byteN
  rw [List.getD_eq_getElem?_getD, List.getElem?_eq_getElem h', Option.getD_some]
  exact ⟨fun e => by rw [e]; rfl, fun e => UInt8.toNat_inj.1 e⟩
theorem ln_eq {s : ByteArray} : ∀ o : Nat, o ≤ s.size → 1 + (Lib.countByte (s.extract 0 o).data.toList 10 : Int) = lnS s o
  | 0, _ => by rw [ext_list]; rfl
  | k + 1, h => by
    have ih := ln_eq (s := s) k (by omega)
    have h' : k < s.data.toList.length := by rw [Array.length_toList]; exact h
    rw [ext_list] at ih ⊢
    rw [List.take_succ_eq_append_getElem h']
    unfold Lib.countByte at ih ⊢
    rw [List.count_append]
    unfold lnS
    by_cases hb : byteN s k = 10
    · rw [if_pos hb, (byte_is h').2 hb]
      simp
      omega
    · have : ¬ s.data.toList[k] = 10 := fun e => hb ((byte_is h').1 e)
      rw [if_neg hb, List.count_eq_zero_of_not_mem (l := [s.data.toList[k]]) (by simpa using fun e => this e.symm)]
      simp
      omega
theorem bang_eq {s : ByteArray} {o k : Nat} (hk : k < o) (ho : o ≤ s.size) : (((s.extract 0 o).data[k]!).toNat : Nat) = byteN s k := by
  have e : (s.extract 0 o).data[k]! = s.data.toList.getD k 0 := by
    have h1 : k < (s.extract 0 o).data.toList.length := by rw [ext_list, List.length_take, Array.length_toList]; have : s.data.size = s.size := rfl; omega
    have h2 : k < (s.extract 0 o).data.size := by rw [← Array.length_toList]; exact h1
    rw [getElem!_pos (s.extract 0 o).data k h2, ← Array.getElem_toList, List.getD_eq_getElem?_getD]
    have h3 : (s.extract 0 o).data.toList[k]? = s.data.toList[k]? := by rw [ext_list, List.getElem?_take, if_pos hk]
    rw [← h3, List.getElem?_eq_getElem h1]
    rfl
  rw [e]
  rfl
theorem last_eq {s : ByteArray} {o : Nat} (ho : o ≤ s.size) : ∀ k : Nat, k ≤ o → Lib.lastIdx (s.extract 0 o) 10 k = k - clS s k
  | 0, _ => by simp [Lib.lastIdx, clS]
  | k + 1, h => by
    have ih := last_eq ho k (by omega)
    unfold Lib.lastIdx clS
    rw [bang_eq (by omega) ho, ih]
    by_cases hb : byteN s k = 10
    · rw [if_pos hb, if_pos (by omega)]; omega
    · rw [if_neg hb, if_neg (by omega)]; omega
theorem cl_eq {s : ByteArray} {o : Nat} (ho : o ≤ s.size) : (o : Int) - Lib.lastIndexByte (s.extract 0 o) 10 = clS s o := by
  unfold Lib.lastIndexByte
  have : (s.extract 0 o).size = o := by rw [ByteArray.size_extract]; omega
  rw [this, last_eq ho o (Nat.le_refl _)]
  omega
set_option maxHeartbeats 1000000 in
theorem refAt_any (s : ByteArray) (o : Nat) (w : World) (hs : s.size ≤ 100000) (ho : o ≤ s.size) : Calls Try.prog 22 #[.string s, .int .i64 o] w fun e w' => e = .returned (.tuple #[.int .i64 (lnS s o), .int .i64 (clS s o)]) ∧ w = w' := by
  go_enter Try.func22, Try.ntmps22
  go_wp2
  go_loop [8, 6, 7] (fun sv lv cv => ∃ k : Nat, k ≤ o ∧ sv = .int .i64 k ∧ lv = .int .i64 (lnS s k) ∧ cv = .int .i64 (clS s k)) (fun sv _ _ => o - (intOf sv).toNat)
  case atStart => exact ⟨0, Nat.zero_le _, rfl, rfl, rfl⟩
  case round =>
    obtain ⟨k, hko, rfl, rfl, rfl⟩ := hrel
    obtain ⟨l0, l1⟩ := lnS_range s k
    obtain ⟨c0, c1⟩ := clS_range s k
    have Hl := Lib.hid (show lnS s (k + 1) = if byteN s k = 10 then lnS s k + 1 else lnS s k from rfl)
    have Hc := Lib.hid (show clS s (k + 1) = if byteN s k = 10 then 1 else clS s k + 1 from rfl)
    by_cases hk : k < o
    · have hks : k < s.size := by omega
      generalize lnS s k = l at Hl l0 l1 ⊢
      generalize clS s k = c at Hc c0 c1 ⊢
      have hbn := byteN_eq hks
      generalize byteN s k = x at Hl Hc hbn
      rcases Classical.em (x = 10) with hx | hx
      · have Hl2 := Lib.hid (Hl.out.trans (if_pos hx))
        have Hc2 := Lib.hid (Hc.out.trans (if_pos hx))
        clear Hl Hc
        subst hx
        go_wp2
        go_round
        case rel => exact ⟨k + 1, by omega, by go_num, by rw [Hl2.out], by rw [Hc2.out]⟩
        case measure => simp [intOf]; omega
      · have Hl := Lib.hid (Hl.out.trans (if_neg hx))
        have Hc := Lib.hid (Hc.out.trans (if_neg hx))
        have hne : (((x : Nat) : Int) == 10) = false := beq_eq_false_iff_ne.2 (by omega)
        go_wp2
        go_round
        case rel => exact ⟨k + 1, by omega, by go_num, by rw [Hl.out], by rw [Hc.out]⟩
        case measure => simp [intOf]; omega
    · obtain rfl : k = o := by omega
      go_wp2
      go_ret2
      exact ⟨rfl, rfl⟩
end Go.Proofs.Ytnkbeaipgadphaa
