/- What slices.Index, slices.Contains on rows of numbers compute. -/
import Derived.Test.YtjmenkjmghmkpaaPlain
namespace Go.Proofs.Ytjmenkjmghmkpaa
open Go.RowKit

set_option maxHeartbeats 400000 in
theorem Index_any (s : Value) (x : Int) (l : List Int) (w : World) {B : Nat} (hs : RInts w (Lt B) s l) :
    Calls Try.prog 36 #[s, .int .i64 x] w fun e w' => e = .returned (.int .i64 (idxI l x)) ∧ w = w' := by
  obtain ⟨A, c, rfl, hm, hat⟩ := hs.open_
  have Hat := Lib.hid hat; clear hat
  go_enter Try.func36, Try.ntmps36
  go_wp2
  go_loop [8] (fun sv => ∃ k : Nat, k ≤ (l).length ∧ sv = .int .i64 k ∧ Hid ((l.take k).any (fun y => y == x) = false)) (fun sv => (l).length - (intOf sv).toNat)
  case atStart => exact ⟨0, Nat.zero_le _, rfl, hid_nil_any _ _⟩
  case round =>
    obtain ⟨k, hkle, rfl, hkinv⟩ := hrel
    by_cases hklt : k < (l).length
    · obtain ⟨bk, offk, uk, rfl, hbk, hcellk, huk⟩ := Hat.out.lt_ hklt
      obtain rfl := huk
      by_cases hx : l[k] = x
      · have Hi := Lib.hid (findIdx_some_of (p := fun y => y == x) hklt hkinv (by simp [hx]))
        have hx1 : (x == l[k]) = true := by simp [hx]
        clear hx
        go_wp2
        go_ret
        exact ⟨ret_int (by rw [idxI, Hi.out]), rfl⟩
      · have hx1 : (x == l[k]) = false := by simp; exact fun h => hx h.symm
        have Hx2 := Lib.hid (show (l[k] == x) = false by simp [hx])
        clear hx
        go_wp2
        go_round
        case rel => exact ⟨k + 1, by omega, by go_num, hid_any_succ hklt hkinv Hx2.out⟩
        case measure => simp [intOf]; omega
    · obtain rfl : k = (l).length := by omega
      go_wp2
      go_ret
      exact ⟨ret_int (by rw [idxI, findIdx_none_of hkinv]), rfl⟩
set_option maxHeartbeats 400000 in
theorem Contains_any (s : Value) (x : Int) (l : List Int) (w : World) {B : Nat} (hs : RInts w (Lt B) s l) :
    Calls Try.prog 32 #[s, .int .i64 x] w fun e w' => e = .returned (.bool (hasB l x)) ∧ w = w' := by
  have Hn := Lib.hid (idxI_nonneg l x)
  have Hs := Lib.hid hs
  clear hs
  go_enter Try.func32, Try.ntmps32
  go_wp2_with (go_at_call 36; refine (Index_any _ _ l _ Hs.out).mono ?_; rintro e w1 ⟨rfl, rfl⟩)
  go_ret
  exact ⟨ret_bool Hn.out, rfl⟩
end Go.Proofs.Ytjmenkjmghmkpaa
