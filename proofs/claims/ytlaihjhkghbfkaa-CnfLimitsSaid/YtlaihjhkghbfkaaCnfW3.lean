/- What the small functions over rows compute: has, slices.Index, slices.Contains, True, Holds. -/
import Derived.Test.YtlaihjhkghbfkaaCnfW2
namespace Go.Proofs.Ytlaihjhkghbfkaa
open Go.RowKit

def litTrue (t : List Bool) (n : Int) : Bool := if 0 < n then t.getD (n.toNat - 1) false else if n < 0 then !(t.getD ((-n).toNat - 1) false) else false
def clauseTrue (t : List Bool) (c : List Int) : Bool := c.any (litTrue t)
def holdsI (cls : List (List Int)) (t : List Bool) : Int := match cls.findIdx? (fun c => !clauseTrue t c) with | some i => i | none => -1

def hasB (l : List Int) (x : Int) : Bool := l.contains x
theorem hasB_iff {l : List Int} {x : Int} : hasB l x = true ↔ x ∈ l := by simp [hasB]
theorem contains_false {l : List Int} {x : Int} (h : Hid ((l.take l.length).any (fun y => y == x) = false)) : hasB l x = false := by
  unfold hasB
  rw [List.take_length] at h
  have := h.out
  simp only [List.any_eq_false, beq_iff_eq] at this
  simp only [List.contains_eq_mem, decide_eq_false_iff_not]
  exact fun hm => this x hm rfl
theorem contains_true {l : List Int} {x : Int} {k : Nat} (h : k < l.length) (e : l[k] = x) : hasB l x = true := by
  unfold hasB
  simp only [List.contains_eq_mem, decide_eq_true_eq]; exact e ▸ List.getElem_mem h

set_option maxHeartbeats 400000 in
theorem has_any (s : Value) (x : Int) (l : List Int) (w : World) {B : Nat} (hs : RInts w (Lt B) s l) :
    Calls Try.prog 25 #[s, .int .i64 x] w fun e w' => e = .returned (.bool (hasB l x)) ∧ w = w' := by
  obtain ⟨A, c, rfl, hm, hat⟩ := hs.open_
  have Hat := Lib.hid hat; clear hat
  go_enter Try.func25, Try.ntmps25
  go_wp2
  go_loop [9] (fun sv => ∃ k : Nat, k ≤ (l).length ∧ sv = .int .i64 k ∧ Hid ((l.take k).any (fun y => y == x) = false)) (fun sv => (l).length - (intOf sv).toNat)
  case atStart => exact ⟨0, Nat.zero_le _, rfl, hid_nil_any _ _⟩
  case round =>
    obtain ⟨k, hkle, rfl, hkinv⟩ := hrel
    by_cases hklt : k < (l).length
    · obtain ⟨bk, offk, uk, rfl, hbk, hcellk, huk⟩ := Hat.out.lt_ hklt
      obtain rfl := huk
      by_cases hx : l[k] = x
      · have Hx := Lib.hid hx
        have hx1 : (l[k] == x) = true := by simp [hx]
        clear hx
        go_wp2
        go_ret
        exact ⟨ret_bool (contains_true hklt Hx.out).symm, rfl⟩
      · have hx1 : (l[k] == x) = false := by simp [hx]
        clear hx
        go_wp2
        go_round
        case rel => exact ⟨k + 1, by omega, by go_num, hid_any_succ hklt hkinv hx1⟩
        case measure => simp [intOf]; omega
    · obtain rfl : k = (l).length := by omega
      go_wp2
      go_ret
      exact ⟨ret_bool (contains_false hkinv).symm, rfl⟩

/-- The place of a number, or -1. -/
def idxI (l : List Int) (x : Int) : Int := match l.findIdx? (fun y => y == x) with | some i => i | none => -1
theorem idxI_nonneg (l : List Int) (x : Int) : decide (0 ≤ idxI l x) = hasB l x := by
  unfold idxI hasB
  cases h : l.findIdx? (fun y => y == x) with
  | none =>
    have := List.findIdx?_eq_none_iff.1 h
    simp only [beq_eq_false_iff_ne] at this
    have hn : ¬ x ∈ l := fun hm => this x hm rfl
    simp [hn]
  | some i =>
    obtain ⟨hi, hp, _⟩ := List.findIdx?_eq_some_iff_getElem.1 h
    have : x ∈ l := by have := List.getElem_mem hi; simp at hp; rwa [hp] at this
    simp [this]
theorem findIdx_none_of {α : Type} {p : α → Bool} {l : List α} (h : Hid ((l.take l.length).any p = false)) : l.findIdx? p = none := by
  rw [List.take_length] at h
  have := List.any_eq_false.1 h.out
  exact List.findIdx?_eq_none_iff.2 fun x hx => by simpa using this x hx
theorem findIdx_some_of {α : Type} {p : α → Bool} {l : List α} {k : Nat} (h : k < l.length) (hi : Hid ((l.take k).any p = false)) (hp : p l[k] = true) : l.findIdx? p = some k := by
  refine List.findIdx?_eq_some_iff_getElem.2 ⟨h, hp, fun j hj => ?_⟩
  have := List.any_eq_false.1 hi.out (l[j]) (by rw [List.mem_take_iff_getElem]; exact ⟨j, by omega, rfl⟩)
  simpa using this
set_option maxHeartbeats 400000 in
theorem Index_any (s : Value) (x : Int) (l : List Int) (w : World) {B : Nat} (hs : RInts w (Lt B) s l) :
    Calls Try.prog 30 #[s, .int .i64 x] w fun e w' => e = .returned (.int .i64 (idxI l x)) ∧ w = w' := by
  obtain ⟨A, c, rfl, hm, hat⟩ := hs.open_
  have Hat := Lib.hid hat; clear hat
  go_enter Try.func30, Try.ntmps30
  go_wp2
  go_loop [8] (fun sv => ∃ k : Nat, k ≤ (l).length ∧ sv = .int .i64 k ∧ Hid ((l.take k).any (fun y => y == x) = false)) (fun sv => (l).length - (intOf sv).toNat)
  case atStart => exact ⟨0, Nat.zero_le _, rfl, hid_nil_any _ _⟩
  case round =>
    obtain ⟨k, hkle, rfl, hkinv⟩ := hrel
    by_cases hklt : k < (l).length
    · obtain ⟨bk, offk, uk, rfl, hbk, hcellk, huk⟩ := Hat.out.lt_ hklt
      obtain rfl := huk
      by_cases hx : l[k] = x
      · have Hi := Lib.hid (findIdx_some_of (p := fun y => y == x) hklt hkinv (by simp [hx]))
        have hx1 : (x == l[k]) = true := by simp [hx]
        clear hx
        go_wp2
        go_ret
        exact ⟨ret_int (by rw [idxI, Hi.out]), rfl⟩
      · have hx1 : (x == l[k]) = false := by simp; exact fun h => hx h.symm
        have Hx2 := Lib.hid (show (l[k] == x) = false by simp [hx])
        clear hx
        go_wp2
        go_round
        case rel => exact ⟨k + 1, by omega, by go_num, hid_any_succ hklt hkinv Hx2.out⟩
        case measure => simp [intOf]; omega
    · obtain rfl : k = (l).length := by omega
      go_wp2
      go_ret
      exact ⟨ret_int (by rw [idxI, findIdx_none_of hkinv]), rfl⟩
set_option maxHeartbeats 400000 in
theorem Contains_any (s : Value) (x : Int) (l : List Int) (w : World) {B : Nat} (hs : RInts w (Lt B) s l) :
    Calls Try.prog 26 #[s, .int .i64 x] w fun e w' => e = .returned (.bool (hasB l x)) ∧ w = w' := by
  have Hn := Lib.hid (idxI_nonneg l x)
  have Hs := Lib.hid hs
  clear hs
  go_enter Try.func26, Try.ntmps26
  go_wp2_with (go_at_call 30; refine (Index_any _ _ l _ Hs.out).mono ?_; rintro e w1 ⟨rfl, rfl⟩)
  go_ret
  exact ⟨ret_bool Hn.out, rfl⟩

theorem litTrue_pos {t : List Bool} {k : Nat} (h : k < t.length) {n : Int} (hn : n = (k : Int) + 1) : litTrue t n = t[k] := by
  subst hn
  simp only [litTrue]
  rw [if_pos (by omega), show ((k : Int) + 1).toNat - 1 = k by omega]
  simp [List.getD, h]
theorem litTrue_neg {t : List Bool} {k : Nat} (h : k < t.length) {n : Int} (hn : n = -((k : Int) + 1)) : litTrue t n = !t[k] := by
  subst hn
  simp only [litTrue]
  rw [if_neg (by omega), if_pos (by omega), show (-(-((k : Int) + 1))).toNat - 1 = k by omega]
  simp [List.getD, h]
theorem litTrue_none {t : List Bool} {n : Int} (h1 : ¬ (1 ≤ n ∧ n ≤ t.length)) (h2 : ¬ (-(t.length : Int) ≤ n ∧ n ≤ -1)) : litTrue t n = decide (n < 0) := by
  simp only [litTrue]
  by_cases h : 0 < n
  · rw [if_pos h, List.getD, List.getElem?_eq_none (by omega)]; simp; omega
  · rw [if_neg h]
    by_cases h3 : n < 0
    · rw [if_pos h3, List.getD, List.getElem?_eq_none (by omega)]; simp; omega
    · rw [if_neg h3]; simp; omega

set_option maxHeartbeats 400000 in
theorem True_any (s : Value) (n : Int) (t : List Bool) (w : World) {B : Nat} (hs : RBools w (Lt B) s t) :
    Calls Try.prog 29 #[.int .i64 n, s] w fun e w' => e = .returned (.bool (litTrue t n)) ∧ w = w' := by
  obtain ⟨A, c, rfl, hm, hat⟩ := hs.open_
  have Hat := Lib.hid hat; clear hat
  go_enter Try.func29, Try.ntmps29
  go_wp2
  go_loop [9] (fun sv => ∃ k : Nat, k ≤ (t).length ∧ sv = .int .i64 k ∧ Hid (¬ (1 ≤ n ∧ n ≤ k) ∧ ¬ (-(k : Int) ≤ n ∧ n ≤ -1))) (fun sv => (t).length - (intOf sv).toNat)
  case atStart => exact ⟨0, Nat.zero_le _, rfl, (by constructor <;> omega)⟩
  case round =>
    obtain ⟨k, hkle, rfl, hkinv⟩ := hrel
    by_cases hklt : k < (t).length
    · obtain ⟨bk, offk, uk, rfl, hbk, hcellk, huk⟩ := Hat.out.lt_ hklt
      obtain rfl := huk
      by_cases h1 : n = (k : Int) + 1
      · have Hv := Lib.hid (litTrue_pos hklt h1)
        have h1' : (n == (k : Int) + 1) = true := by simp [h1]
        clear h1
        go_wp2
        go_ret
        exact ⟨ret_bool Hv.out.symm, rfl⟩
      have h1' : (n == (k : Int) + 1) = false := by simp [h1]
      by_cases h2 : n = -((k : Int) + 1)
      · have Hv := Lib.hid (litTrue_neg hklt h2)
        have h2' : (n == -((k : Int) + 1)) = true := by simp [h2]
        clear h1 h2
        go_wp2
        go_ret
        exact ⟨ret_bool Hv.out.symm, rfl⟩
      have h2' : (n == -((k : Int) + 1)) = false := by simp [h2]
      have Hn := Lib.hid (show ¬ (1 ≤ n ∧ n ≤ (k + 1 : Nat)) ∧ ¬ (-((k + 1 : Nat) : Int) ≤ n ∧ n ≤ -1) by have := hkinv.out; constructor <;> omega)
      clear h1 h2
      go_wp2
      go_round
      case rel => exact ⟨k + 1, by omega, by go_num, Hn⟩
      case measure => simp [intOf]; omega
    · obtain rfl : k = (t).length := by omega
      have Hv := Lib.hid (litTrue_none hkinv.out.1 hkinv.out.2)
      clear hkinv
      go_wp2
      go_ret
      exact ⟨ret_bool Hv.out.symm, rfl⟩
end Go.Proofs.Ytlaihjhkghbfkaa
