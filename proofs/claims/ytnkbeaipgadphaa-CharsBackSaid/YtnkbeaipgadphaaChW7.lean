/- chars.Ref. -/
import Derived.Test.YtnkbeaipgadphaaChW6
namespace Go.Proofs.Ytnkbeaipgadphaa
open Go.RowKit
open C01

def five : List ByteArray := [⟨#[108, 116]⟩, ⟨#[103, 116]⟩, ⟨#[97, 109, 112]⟩, ⟨#[113, 117, 111, 116]⟩, ⟨#[97, 112, 111, 115]⟩]
def begun (word : ByteArray) : Bool := five.any fun x => Lib.hasPrefix x.data.toList word.data.toList
def refR (s : ByteArray) : ByteArray × Int × Int :=
  if s = ⟨#[]⟩ then (⟨#[]⟩, 0, 13) else if byteN s 0 ≠ 38 then (⟨#[]⟩, 0, 12) else if Lib.hasPrefix s.data.toList [38, 35] then numberR (s.extract 2 s.size) 2 else
  if 1 + spanN lowB (s.extract 1 s.size).data.toList = s.size then (if begun (s.extract 1 (1 + spanN lowB (s.extract 1 s.size).data.toList)) then (⟨#[]⟩, 0, 13) else (⟨#[]⟩, 0, 12))
  else if namedS (s.extract 1 (1 + spanN lowB (s.extract 1 s.size).data.toList)) ≠ ⟨#[]⟩ ∧ byteN s (1 + spanN lowB (s.extract 1 s.size).data.toList) = 59 then (namedS (s.extract 1 (1 + spanN lowB (s.extract 1 s.size).data.toList)), (spanN lowB (s.extract 1 s.size).data.toList : Nat) + 2, 0) else (⟨#[]⟩, 0, 12)
theorem hasPrefix_two {l : List UInt8} (h : Lib.hasPrefix l [38, 35] = true) : 2 ≤ l.length := by
  match l, h with
  | [], h => cases h
  | [x], h => simp [Lib.hasPrefix] at h
  | _ :: _ :: _, _ => simp
theorem begun_yes {word : ByteArray} {k : Nat} (hk : k < 5) (h : Lib.hasPrefix (five.getD k ⟨#[]⟩).data.toList word.data.toList = true) : begun word = true := by
  unfold begun
  rw [List.any_eq_true]
  refine ⟨five.getD k ⟨#[]⟩, ?_, h⟩
  rw [List.getD_eq_getElem?_getD, List.getElem?_eq_getElem (show k < five.length from hk)]
  exact List.getElem_mem _
theorem begun_no {word : ByteArray} (h : ∀ j, j < 5 → Lib.hasPrefix (five.getD j ⟨#[]⟩).data.toList word.data.toList = false) : begun word = false := by
  have h0 := h 0 (by omega)
  have h1 := h 1 (by omega)
  have h2 := h 2 (by omega)
  have h3 := h 3 (by omega)
  have h4 := h 4 (by omega)
  unfold begun five
  simp only [five, List.getD_cons_zero, List.getD_cons_succ] at h0 h1 h2 h3 h4
  simp only [List.any_cons, List.any_nil, h0, h1, h2, h3, h4, Bool.or_false]
theorem five_cell (w : World) (k : Nat) (hk : k < 5) : (w.alloc (.cells #[.string ⟨#[108, 116]⟩, .string ⟨#[103, 116]⟩, .string ⟨#[97, 109, 112]⟩, .string ⟨#[113, 117, 111, 116]⟩, .string ⟨#[97, 112, 111, 115]⟩] 9)).cell? ⟨w.heap.size, k, none⟩ = some (.string (five.getD k ⟨#[]⟩)) := by
  rw [cell_of_row _ _ _ _ _ (0, 0) (heap_alloc_new w _)]
  match k, hk with
  | 0, _ => rfl
  | 1, _ => rfl
  | 2, _ => rfl
  | 3, _ => rfl
  | 4, _ => rfl
set_option maxHeartbeats 1000000 in
theorem Ref_any (s : ByteArray) (w : World) (hs : s.size ≤ 100000) : Calls Try.prog 17 #[.string s] w fun e w' => e = .returned (.tuple #[.string (refR s).1, .int .i64 (refR s).2.1, .int .i64 (refR s).2.2]) ∧ Below w.heap.size w w' := by
  obtain ⟨R, hR⟩ : ∃ R, R = refR s := ⟨_, rfl⟩
  rw [← hR]
  unfold refR at hR
  have Hr := Lib.hid hR
  clear hR
  rcases Classical.em (s = ⟨#[]⟩) with he | he
  · have Hr := Lib.hid (Hr.out.trans (if_pos he))
    subst he
    go_enter Try.func17, Try.ntmps17
    go_wp2
    go_ret3
    exact ⟨by rw [Hr.out]; rfl, Below.refl _ _⟩
  have Hr := Lib.hid (Hr.out.trans (if_neg he))
  have e0 := str_ne he
  have h0 : 0 < s.size := by
    rcases Nat.lt_or_ge 0 s.size with h | h
    · exact h
    · have h' : s.size = 0 := by omega
      exact absurd (ByteArray.size_eq_zero_iff.1 h') he
  have hb0 := byteN_eq h0
  rcases Classical.em (byteN s 0 = 38) with h38 | h38
  case inr =>
    have Hr := Lib.hid (Hr.out.trans (if_pos h38))
    have hne : (((byteN s 0 : Nat) : Int) != 38) = true := bne_iff_ne.2 (by omega)
    go_enter Try.func17, Try.ntmps17
    go_wp2
    go_ret3
    exact ⟨by rw [Hr.out]; rfl, Below.refl _ _⟩
  have Hr := Lib.hid (Hr.out.trans (if_neg (fun h => h h38)))
  rw [h38] at hb0
  have Hp := Lib.hid (fun w => HasPrefix_any s ⟨#[38, 35]⟩ w)
  cases hp : Lib.hasPrefix s.data.toList [38, 35] with
  | true =>
    have Hr := Lib.hid (Hr.out.trans (if_pos hp))
    have hpt : Lib.hasPrefix s.data.toList (⟨#[38, 35]⟩ : ByteArray).data.toList = true := hp
    rw [hpt] at Hp
    have h2 : 2 ≤ s.size := by have := hasPrefix_two hp; rw [Array.length_toList] at this; exact this
    have Hn := Lib.hid (fun w => number_any (s.extract 2 s.size) 2 w (by rw [ByteArray.size_extract]; omega) (by omega))
    generalize numberR (s.extract 2 s.size) 2 = M at Hr Hn
    clear hp hpt
    go_enter Try.func17, Try.ntmps17
    go_wp2_with (first | (go_at_call 34; refine (Hp.out _).mono ?_; rintro e w1 ⟨rfl, rfl⟩) | (go_at_call 35; refine (Hn.out _).mono ?_; rintro e w5 ⟨rfl, hb5⟩; have HL5 := Lib.hid hb5; clear hb5))
    go_ret3
    exact ⟨by rw [Hr.out]; rfl, HL5.out⟩
  | false =>
    have Hr := Lib.hid (Hr.out.trans (if_neg (by rw [hp]; simp)))
    have hpt : Lib.hasPrefix s.data.toList (⟨#[38, 35]⟩ : ByteArray).data.toList = false := hp
    rw [hpt] at Hp
    clear hp hpt
    have hxs : (s.extract 1 s.size).size = s.size - 1 := by rw [ByteArray.size_extract]; omega
    have Hspan := Lib.hid (fun w => span0_any 37 lowB (s.extract 1 s.size) w (by omega) (fun args w => by kernel_rfl) (fun x hx => Ref1_any (x : Nat) w))
    have hnle : spanN lowB (s.extract 1 s.size).data.toList ≤ s.size - 1 := by rw [← hxs, show (s.extract 1 s.size).size = (s.extract 1 s.size).data.toList.length from (Array.length_toList).symm]; exact spanN_le _ _
    clear hxs
    generalize spanN lowB (s.extract 1 s.size).data.toList = n at Hr hnle Hspan ⊢
    have hw1 : IntKind.i64.wrap (1 + (n : Int)) = ((1 + n : Nat) : Int) := by rw [IntKind.wrap_i64]; omega
    rcases Classical.em (1 + n = s.size) with hz | hz
    · have Hr := Lib.hid (Hr.out.trans (if_pos hz))
      go_enter Try.func17, Try.ntmps17
      go_wp2_with (first | (go_at_call 34; refine (Hp.out _).mono ?_; rintro e w1 ⟨rfl, rfl⟩) | (go_at_call 36; refine (Hspan.out _).mono ?_; rintro e w1 ⟨rfl, rfl⟩))
      rw [hz] at Hr
      have HcA := Lib.hid (fun k (hk : k < 5) => five_cell w1 k hk)
      go_loop [40] (fun sv => ∃ k : Nat, k ≤ 5 ∧ sv = .int .i64 k ∧ Hid (∀ j, j < k → Lib.hasPrefix (five.getD j ⟨#[]⟩).data.toList (s.extract 1 s.size).data.toList = false)) (fun sv => 5 - (intOf sv).toNat)
      case atStart => exact ⟨0, Nat.zero_le _, rfl, Lib.hid (fun j hj => absurd hj (Nat.not_lt_zero _))⟩
      case round =>
        obtain ⟨k, hk5, rfl, Hn⟩ := hrel
        by_cases hk : k < 5
        · have hcell := HcA.out k hk
          have HP := Lib.hid (fun w => HasPrefix_any (five.getD k ⟨#[]⟩) (s.extract 1 s.size) w)
          cases hq : Lib.hasPrefix (five.getD k ⟨#[]⟩).data.toList (s.extract 1 s.size).data.toList with
          | true =>
            rw [hq] at HP
            have Hr := Lib.hid (Hr.out.trans (if_pos (begun_yes hk hq)))
            clear hq
            generalize five.getD k ⟨#[]⟩ = x at hcell HP
            go_wp2_with (go_at_call 34; refine (HP.out _).mono ?_; rintro e w2 ⟨rfl, rfl⟩)
            go_ret3
            exact ⟨by rw [Hr.out]; rfl, below_alloc _ _⟩
          | false =>
            rw [hq] at HP
            have Hq := Lib.hid hq
            clear hq
            have Hn' := Lib.hid (show ∀ j, j < k + 1 → Lib.hasPrefix (five.getD j ⟨#[]⟩).data.toList (s.extract 1 s.size).data.toList = false from fun j hj => by
              rcases Nat.lt_or_ge j k with h | h
              · exact Hn.out j h
              · rw [show j = k by omega]; exact Hq.out)
            clear Hq
            generalize five.getD k ⟨#[]⟩ = x at hcell HP
            go_wp2_with (go_at_call 34; refine (HP.out _).mono ?_; rintro e w2 ⟨rfl, rfl⟩)
            go_round
            case rel => exact ⟨k + 1, by omega, by go_num, Hn'⟩
            case measure => simp [intOf]; omega
        · obtain rfl : k = 5 := by omega
          have Hr := Lib.hid (Hr.out.trans (if_neg (by rw [begun_no Hn.out]; simp)))
          go_wp2
          go_ret3
          exact ⟨by rw [Hr.out]; rfl, below_alloc _ _⟩
    · have Hr := Lib.hid (Hr.out.trans (if_neg hz))
      go_enter Try.func17, Try.ntmps17
      go_wp2_with (first | (go_at_call 34; refine (Hp.out _).mono ?_; rintro e w1 ⟨rfl, rfl⟩) | (go_at_call 36; refine (Hspan.out _).mono ?_; rintro e w1 ⟨rfl, rfl⟩))
      have hlt : 1 + n < s.size := by omega
      have hbn := byteN_eq hlt
      have Hnm := Lib.hid (fun w => named_any (s.extract 1 (1 + n)) w)
      generalize namedS (s.extract 1 (1 + n)) = T at Hr Hnm
      generalize byteN s (1 + n) = y at Hr hbn
      rcases Classical.em (T = ⟨#[]⟩) with hT | hT
      · have Hr := Lib.hid (Hr.out.trans (if_neg (fun h => h.1 hT)))
        subst hT
        go_wp2_with (go_at_call 38; refine (Hnm.out _).mono ?_; rintro e w2 ⟨rfl, rfl⟩)
        go_ret3
        exact ⟨by rw [Hr.out]; rfl, Below.refl _ _⟩
      have eT : (T.toList != []) = true := by rw [bne, str_ne hT]; rfl
      have eT1 := str_ne hT
      have eT2 : (!(T.toList == [])) = true := by rw [str_ne hT]; rfl
      have hw2 : IntKind.i64.wrap ((n : Int) + 2) = (n : Int) + 2 := by rw [IntKind.wrap_i64]; omega
      rcases Classical.em (y = 59) with hy | hy
      · have Hz := Lib.hid (Hr.out.trans (if_pos ⟨hT, hy⟩))
        clear Hr
        subst hy
        go_wp2_with (go_at_call 38; refine (Hnm.out _).mono ?_; rintro e w2 ⟨rfl, rfl⟩)
        go_ret3
        exact ⟨by rw [Hz.out]; rfl, Below.refl _ _⟩
      · have Hr := Lib.hid (Hr.out.trans (if_neg (fun h => hy h.2)))
        have hne : (((y : Nat) : Int) == 59) = false := beq_eq_false_iff_ne.2 (by omega)
        go_wp2_with (go_at_call 38; refine (Hnm.out _).mono ?_; rintro e w2 ⟨rfl, rfl⟩)
        go_ret3
        exact ⟨by rw [Hr.out]; rfl, Below.refl _ _⟩
end Go.Proofs.Ytnkbeaipgadphaa
