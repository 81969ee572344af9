/- What True and Holds of the reference compute. -/
import Derived.Test.YtdofiipckcfopaaPlain
namespace Go.Proofs.Ytdofiipckcfopaa
open Go.RowKit

set_option maxHeartbeats 400000 in
theorem True_any (s : Value) (n : Int) (t : List Bool) (w : World) {B : Nat} (hs : RBools w (Lt B) s t) :
    Calls Try.prog 23 #[.int .i64 n, s] w fun e w' => e = .returned (.bool (litTrue t n)) ∧ w = w' := by
  obtain ⟨A, c, rfl, hm, hat⟩ := hs.open_
  have Hat := Lib.hid hat; clear hat
  go_enter Try.func23, Try.ntmps23
  go_wp2
  go_loop [9] (fun sv => ∃ k : Nat, k ≤ (t).length ∧ sv = .int .i64 k ∧ Hid (¬ (1 ≤ n ∧ n ≤ k) ∧ ¬ (-(k : Int) ≤ n ∧ n ≤ -1))) (fun sv => (t).length - (intOf sv).toNat)
  case atStart => exact ⟨0, Nat.zero_le _, rfl, (by constructor <;> omega)⟩
  case round =>
    obtain ⟨k, hkle, rfl, hkinv⟩ := hrel
    by_cases hklt : k < (t).length
    · obtain ⟨bk, offk, uk, rfl, hbk, hcellk, huk⟩ := Hat.out.lt_ hklt
      obtain rfl := huk
      by_cases h1 : n = (k : Int) + 1
      · have Hv := Lib.hid (litTrue_pos hklt h1)
        have h1' : (n == (k : Int) + 1) = true := by simp [h1]
        clear h1
        go_wp2
        go_ret
        exact ⟨ret_bool Hv.out.symm, rfl⟩
      have h1' : (n == (k : Int) + 1) = false := by simp [h1]
      by_cases h2 : n = -((k : Int) + 1)
      · have Hv := Lib.hid (litTrue_neg hklt h2)
        have h2' : (n == -((k : Int) + 1)) = true := by simp [h2]
        clear h1 h2
        go_wp2
        go_ret
        exact ⟨ret_bool Hv.out.symm, rfl⟩
      have h2' : (n == -((k : Int) + 1)) = false := by simp [h2]
      have Hn := Lib.hid (show ¬ (1 ≤ n ∧ n ≤ (k + 1 : Nat)) ∧ ¬ (-((k + 1 : Nat) : Int) ≤ n ∧ n ≤ -1) by have := hkinv.out; constructor <;> omega)
      clear h1 h2
      go_wp2
      go_round
      case rel => exact ⟨k + 1, by omega, by go_num, Hn⟩
      case measure => simp [intOf]; omega
    · obtain rfl : k = (t).length := by omega
      have Hv := Lib.hid (litTrue_none hkinv.out.1 hkinv.out.2)
      clear hkinv
      go_wp2
      go_ret
      exact ⟨ret_bool Hv.out.symm, rfl⟩
set_option maxHeartbeats 1000000 in
theorem Holds_any (s s2 : Value) (cls : List (List Int)) (t : List Bool) (w : World) {B : Nat} (hs : RIntss w (Lt B) s cls) (hs2 : RBools w (Lt B) s2 t) :
    Calls Try.prog 16 #[s, s2] w fun e w' => e = .returned (.int .i64 (holdsI cls t)) ∧ w = w' := by
  obtain ⟨A, c, rfl, hm, hat⟩ := hs.open_
  have Hat := Lib.hid hat; clear hat
  have Hs2 := Lib.hid hs2; clear hs2
  go_enter Try.func16, Try.ntmps16
  go_wp2
  go_loop [12] (fun sv => ∃ k : Nat, k ≤ (cls).length ∧ sv = .int .i64 k ∧ Hid ((cls.take k).any (fun c => !clauseTrue t c) = false)) (fun sv => (cls).length - (intOf sv).toNat)
  case atStart => exact ⟨0, Nat.zero_le _, rfl, hid_nil_any _ _⟩
  case round =>
    obtain ⟨k, hkle, rfl, hkinv⟩ := hrel
    by_cases hklt : k < (cls).length
    · obtain ⟨bk, offk, uk, rfl, hbk, hcellk, huk⟩ := Hat.out.lt_ hklt
      obtain ⟨A2, c2, rfl, hm2, hat2⟩ := huk.open_
      have Hat2 := Lib.hid hat2; clear hat2
      go_wp2
      go_loop [19, 7] (fun sv ok => ∃ j : Nat, j ≤ (cls[k]).length ∧ sv = .int .i64 j ∧ ok = .bool (clauseTrue t (cls[k].take j))) (fun sv _ => (cls[k]).length - (intOf sv).toNat)
      case atStart => exact ⟨0, Nat.zero_le _, rfl, rfl⟩
      case round =>
        obtain ⟨j, hjle, rfl, hjinv⟩ := hrel
        by_cases hjlt : j < (cls[k]).length
        · obtain ⟨bj, offj, uj, rfl, hbj, hcellj, huj⟩ := Hat2.out.lt_ hjlt
          obtain rfl := huj
          obtain rfl := hjinv
          cases hany : clauseTrue t (cls[k].take j) with
          | true =>
            have Hany := Lib.hid (show Value.bool true = .bool (clauseTrue t (cls[k].take (j + 1))) by rw [clauseTrue_succ hjlt, hany]; rfl)
            clear hany
            go_wp2
            go_round
            case rel => exact ⟨j + 1, by omega, by go_num, Hany.out⟩
            case measure => simp [intOf]; omega
          | false =>
            have Hany := Lib.hid (show Value.bool (litTrue t cls[k][j]) = .bool (clauseTrue t (cls[k].take (j + 1))) by rw [clauseTrue_succ hjlt, hany]; rfl)
            clear hany
            go_wp2_with (go_at_call 23; refine (True_any _ _ t _ Hs2.out).mono ?_; rintro e w1 ⟨rfl, rfl⟩)
            go_round
            case rel => exact ⟨j + 1, by omega, by go_num, Hany.out⟩
            case measure => simp [intOf]; omega
        · obtain rfl : j = (cls[k]).length := by omega
          obtain rfl := hjinv
          rw [List.take_length]
          cases hany : clauseTrue t cls[k] with
          | true =>
            have Hany := Lib.hid hany; clear hany
            go_wp2
            go_round
            case rel => exact ⟨k + 1, by omega, by go_num, (hid_any_succ hklt hkinv (by rw [Hany.out]; rfl))⟩
            case measure => simp [intOf]; omega
          | false =>
            have Hi := Lib.hid (findIdx_some_of (p := fun c => !clauseTrue t c) hklt hkinv (by simp [hany]))
            clear hany
            go_wp2
            go_ret
            exact ⟨ret_int (by rw [holdsI, Hi.out]), rfl⟩
    · obtain rfl : k = (cls).length := by omega
      go_wp2
      go_ret
      exact ⟨ret_int (by rw [holdsI, findIdx_none_of hkinv]), rfl⟩
end Go.Proofs.Ytdofiipckcfopaa
