/- Which clause is the first that does not hold; slices.IndexFunc with the closure of Right; which questions may be. -/
import Derived.Test.YtlaihjhkghbfkaaCnfW3
namespace Go.Proofs.Ytlaihjhkghbfkaa
open Go.RowKit

theorem clauseTrue_succ {t : List Bool} {c : List Int} {j : Nat} (h : j < c.length) : clauseTrue t (c.take (j + 1)) = (clauseTrue t (c.take j) || litTrue t c[j]) := any_take_succ _ _ _ h
set_option maxHeartbeats 1000000 in
theorem Holds_any (s s2 : Value) (cls : List (List Int)) (t : List Bool) (w : World) {B : Nat} (hs : RIntss w (Lt B) s cls) (hs2 : RBools w (Lt B) s2 t) :
    Calls Try.prog 19 #[s, s2] w fun e w' => e = .returned (.int .i64 (holdsI cls t)) ∧ w = w' := by
  obtain ⟨A, c, rfl, hm, hat⟩ := hs.open_
  have Hat := Lib.hid hat; clear hat
  have Hs2 := Lib.hid hs2; clear hs2
  go_enter Try.func19, Try.ntmps19
  go_wp2
  go_loop [12] (fun sv => ∃ k : Nat, k ≤ (cls).length ∧ sv = .int .i64 k ∧ Hid ((cls.take k).any (fun c => !clauseTrue t c) = false)) (fun sv => (cls).length - (intOf sv).toNat)
  case atStart => exact ⟨0, Nat.zero_le _, rfl, hid_nil_any _ _⟩
  case round =>
    obtain ⟨k, hkle, rfl, hkinv⟩ := hrel
    by_cases hklt : k < (cls).length
    · obtain ⟨bk, offk, uk, rfl, hbk, hcellk, huk⟩ := Hat.out.lt_ hklt
      obtain ⟨A2, c2, rfl, hm2, hat2⟩ := huk.open_
      have Hat2 := Lib.hid hat2; clear hat2
      go_wp2
      go_loop [19, 7] (fun sv ok => ∃ j : Nat, j ≤ (cls[k]).length ∧ sv = .int .i64 j ∧ ok = .bool (clauseTrue t (cls[k].take j))) (fun sv _ => (cls[k]).length - (intOf sv).toNat)
      case atStart => exact ⟨0, Nat.zero_le _, rfl, rfl⟩
      case round =>
        obtain ⟨j, hjle, rfl, hjinv⟩ := hrel
        by_cases hjlt : j < (cls[k]).length
        · obtain ⟨bj, offj, uj, rfl, hbj, hcellj, huj⟩ := Hat2.out.lt_ hjlt
          obtain rfl := huj
          obtain rfl := hjinv
          cases hany : clauseTrue t (cls[k].take j) with
          | true =>
            have Hany := Lib.hid (show Value.bool true = .bool (clauseTrue t (cls[k].take (j + 1))) by rw [clauseTrue_succ hjlt, hany]; rfl)
            clear hany
            go_wp2
            go_round
            case rel => exact ⟨j + 1, by omega, by go_num, Hany.out⟩
            case measure => simp [intOf]; omega
          | false =>
            have Hany := Lib.hid (show Value.bool (litTrue t cls[k][j]) = .bool (clauseTrue t (cls[k].take (j + 1))) by rw [clauseTrue_succ hjlt, hany]; rfl)
            clear hany
            go_wp2_with (go_at_call 29; refine (True_any _ _ t _ Hs2.out).mono ?_; rintro e w1 ⟨rfl, rfl⟩)
            go_round
            case rel => exact ⟨j + 1, by omega, by go_num, Hany.out⟩
            case measure => simp [intOf]; omega
        · obtain rfl : j = (cls[k]).length := by omega
          obtain rfl := hjinv
          rw [List.take_length]
          cases hany : clauseTrue t cls[k] with
          | true =>
            have Hany := Lib.hid hany; clear hany
            go_wp2
            go_round
            case rel => exact ⟨k + 1, by omega, by go_num, (hid_any_succ hklt hkinv (by rw [Hany.out]; rfl))⟩
            case measure => simp [intOf]; omega
          | false =>
            have Hi := Lib.hid (findIdx_some_of (p := fun c => !clauseTrue t c) hklt hkinv (by simp [hany]))
            clear hany
            go_wp2
            go_ret
            exact ⟨ret_int (by rw [holdsI, Hi.out]), rfl⟩
    · obtain rfl : k = (cls).length := by omega
      go_wp2
      go_ret
      exact ⟨ret_int (by rw [holdsI, findIdx_none_of hkinv]), rfl⟩

theorem holdsI_iff {cls : List (List Int)} {t : List Bool} : holdsI cls t = -1 ↔ cls.all (clauseTrue t) = true := by
  unfold holdsI
  cases h : cls.findIdx? (fun c => !clauseTrue t c) with
  | none =>
    have := List.findIdx?_eq_none_iff.1 h
    simp at this
    simpa using this
  | some i =>
    obtain ⟨hi, hp, _⟩ := List.findIdx?_eq_some_iff_getElem.1 h
    simp at hp
    have : cls.all (clauseTrue t) = false := all_at (h := hi) hp
    simp [this]

theorem callFunc_run {P : Program} {f : FuncId} {fn : Func} (hf : P.funcs[f]? = some fn) (hn : (fn.name == "runtime.NumGoroutine") = false) (hb : fn.body.isNone = false) (args : Array Value) (w : World) : (callFunc f args).run P w = .ok (.enter f args) w := by
  cases hc : fn.body with
  | none => simp [hc] at hb
  | some c => simp at hn; simp [callFunc, program, Sem.run, hf, hc, hn]
theorem callFunc_right : ∀ (args : Array Value) (w : World), (callFunc 28 args).run Try.prog w = .ok (.enter 28 args) w := callFunc_run Try.func28 (by kernel_rfl) (by kernel_rfl)

/-! ### The closure of Right: does 'taken' hold the number? -/
set_option maxHeartbeats 400000 in
theorem RightFn_any (x : Int) (b : Nat) (s : Value) (l : List Int) (w : World) {B : Nat} (hc : w.cell? ⟨b, 0, none⟩ = some s) (hs : RInts w (Lt B) s l) :
    Calls Try.prog 28 #[.int .i64 x, .pointer (some ⟨b, 0, none⟩)] w fun e w' => e = .returned (.bool (hasB l x)) ∧ w = w' := by
  have Hs := Lib.hid hs
  obtain ⟨A, c, rfl, _, _⟩ := hs
  go_enter Try.func28, Try.ntmps28
  go_wp2_with (go_at_call 26; refine (Contains_any _ _ l _ Hs.out).mono ?_; rintro e w1 ⟨rfl, rfl⟩)
  go_ret
  exact ⟨rfl, rfl⟩

def idxFn (p : Int → Bool) (l : List Int) : Int := match l.findIdx? p with | some i => i | none => -1
theorem idxFn_nonneg (p : Int → Bool) (l : List Int) : decide (0 ≤ idxFn p l) = l.any p := by
  unfold idxFn
  cases h : l.findIdx? p with
  | none =>
    have := List.findIdx?_eq_none_iff.1 h
    have hn : l.any p = false := by rw [List.any_eq_false]; intro x hx; simp [this x hx]
    simp [hn]
  | some i =>
    obtain ⟨hi, hp, _⟩ := List.findIdx?_eq_some_iff_getElem.1 h
    simp [any_at (h := hi) hp]
set_option maxHeartbeats 400000 in
theorem IndexFunc_any (f : FuncId) (cap : Value) (p : Int → Bool) (s : Value) (l : List Int) (w : World) {B : Nat} (hs : RInts w (Lt B) s l)
    (hcf : ∀ (args : Array Value) (w : World), (callFunc f args).run Try.prog w = .ok (.enter f args) w)
    (hf : ∀ x, Calls Try.prog f #[.int .i64 x, cap] w fun e w' => e = .returned (.bool (p x)) ∧ w = w') :
    Calls Try.prog 31 #[s, .func (.func f) #[] #[cap]] w fun e w' => e = .returned (.int .i64 (idxFn p l)) ∧ w = w' := by
  obtain ⟨A, c, rfl, hm, hat⟩ := hs.open_
  have Hat := Lib.hid hat; clear hat
  have Hf := Lib.hid hf; clear hf
  go_enter Try.func31, Try.ntmps31
  go_wp2
  go_loop [8] (fun sv => ∃ k : Nat, k ≤ (l).length ∧ sv = .int .i64 k ∧ Hid ((l.take k).any p = false)) (fun sv => (l).length - (intOf sv).toNat)
  case atStart => exact ⟨0, Nat.zero_le _, rfl, hid_nil_any _ _⟩
  case round =>
    obtain ⟨k, hkle, rfl, hkinv⟩ := hrel
    by_cases hklt : k < (l).length
    · obtain ⟨bk, offk, uk, rfl, hbk, hcellk, huk⟩ := Hat.out.lt_ hklt
      obtain rfl := huk
      cases hx : p l[k] with
      | true =>
        have Hi := Lib.hid (findIdx_some_of (p := p) hklt hkinv hx)
        have Hx := Lib.hid hx; clear hx
        go_wp2_with fail
        refine (Hf.out _).mono ?_
        rintro e w1 ⟨rfl, rfl⟩
        rw [Hx.out]
        go_wp2
        go_ret
        exact ⟨ret_int (by rw [idxFn, Hi.out]), rfl⟩
      | false =>
        have Hx := Lib.hid hx; clear hx
        go_wp2_with fail
        refine (Hf.out _).mono ?_
        rintro e w1 ⟨rfl, rfl⟩
        rw [Hx.out]
        go_wp2
        go_round
        case rel => exact ⟨k + 1, by omega, by go_num, hid_any_succ hklt hkinv Hx.out⟩
        case measure => simp [intOf]; omega
    · obtain rfl : k = (l).length := by omega
      go_wp2
      go_ret
      exact ⟨ret_int (by rw [idxFn, findIdx_none_of hkinv]), rfl⟩
set_option maxHeartbeats 400000 in
theorem ContainsFunc_any (f : FuncId) (cap : Value) (p : Int → Bool) (s : Value) (l : List Int) (w : World) {B : Nat} (hs : RInts w (Lt B) s l)
    (hcf : ∀ (args : Array Value) (w : World), (callFunc f args).run Try.prog w = .ok (.enter f args) w)
    (hf : ∀ x, Calls Try.prog f #[.int .i64 x, cap] w fun e w' => e = .returned (.bool (p x)) ∧ w = w') :
    Calls Try.prog 27 #[s, .func (.func f) #[] #[cap]] w fun e w' => e = .returned (.bool (l.any p)) ∧ w = w' := by
  have Hn := Lib.hid (idxFn_nonneg p l)
  have Hs := Lib.hid hs
  have Hf := Lib.hid hf
  clear hs hf
  go_enter Try.func27, Try.ntmps27
  go_wp2_with (go_at_call 31; refine (IndexFunc_any _ _ p _ l _ Hs.out hcf Hf.out).mono ?_; rintro e w1 ⟨rfl, rfl⟩)
  go_ret
  exact ⟨ret_bool Hn.out, rfl⟩
end Go.Proofs.Ytlaihjhkghbfkaa
