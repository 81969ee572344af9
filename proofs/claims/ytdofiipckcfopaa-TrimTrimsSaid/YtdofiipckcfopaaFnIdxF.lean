/- What slices.IndexFunc and ContainsFunc on rows of numbers compute. -/
import Derived.Test.YtdofiipckcfopaaPlain
namespace Go.Proofs.Ytdofiipckcfopaa
open Go.RowKit

set_option maxHeartbeats 400000 in
theorem IndexFunc_any (f : FuncId) (cap : Value) (p : Int → Bool) (s : Value) (l : List Int) (w : World) {B : Nat} (hs : RInts w (Lt B) s l)
    (hcf : ∀ (args : Array Value) (w : World), (callFunc f args).run Try.prog w = .ok (.enter f args) w)
    (hf : ∀ x, Calls Try.prog f #[.int .i64 x, cap] w fun e w' => e = .returned (.bool (p x)) ∧ w = w') :
    Calls Try.prog 82 #[s, .func (.func f) #[] #[cap]] w fun e w' => e = .returned (.int .i64 (idxFn p l)) ∧ w = w' := by
  obtain ⟨A, c, rfl, hm, hat⟩ := hs.open_
  have Hat := Lib.hid hat; clear hat
  have Hf := Lib.hid hf; clear hf
  go_enter Try.func82, Try.ntmps82
  go_wp2
  go_loop [8] (fun sv => ∃ k : Nat, k ≤ (l).length ∧ sv = .int .i64 k ∧ Hid ((l.take k).any p = false)) (fun sv => (l).length - (intOf sv).toNat)
  case atStart => exact ⟨0, Nat.zero_le _, rfl, hid_nil_any _ _⟩
  case round =>
    obtain ⟨k, hkle, rfl, hkinv⟩ := hrel
    by_cases hklt : k < (l).length
    · obtain ⟨bk, offk, uk, rfl, hbk, hcellk, huk⟩ := Hat.out.lt_ hklt
      obtain rfl := huk
      cases hx : p l[k] with
      | true =>
        have Hi := Lib.hid (findIdx_some_of (p := p) hklt hkinv hx)
        have Hx := Lib.hid hx; clear hx
        go_wp2_with fail
        refine (Hf.out _).mono ?_
        rintro e w1 ⟨rfl, rfl⟩
        rw [Hx.out]
        go_wp2
        go_ret
        exact ⟨ret_int (by rw [idxFn, Hi.out]), rfl⟩
      | false =>
        have Hx := Lib.hid hx; clear hx
        go_wp2_with fail
        refine (Hf.out _).mono ?_
        rintro e w1 ⟨rfl, rfl⟩
        rw [Hx.out]
        go_wp2
        go_round
        case rel => exact ⟨k + 1, by omega, by go_num, hid_any_succ hklt hkinv Hx.out⟩
        case measure => simp [intOf]; omega
    · obtain rfl : k = (l).length := by omega
      go_wp2
      go_ret
      exact ⟨ret_int (by rw [idxFn, findIdx_none_of hkinv]), rfl⟩
set_option maxHeartbeats 400000 in
theorem ContainsFunc_any (f : FuncId) (cap : Value) (p : Int → Bool) (s : Value) (l : List Int) (w : World) {B : Nat} (hs : RInts w (Lt B) s l)
    (hcf : ∀ (args : Array Value) (w : World), (callFunc f args).run Try.prog w = .ok (.enter f args) w)
    (hf : ∀ x, Calls Try.prog f #[.int .i64 x, cap] w fun e w' => e = .returned (.bool (p x)) ∧ w = w') :
    Calls Try.prog 74 #[s, .func (.func f) #[] #[cap]] w fun e w' => e = .returned (.bool (l.any p)) ∧ w = w' := by
  have Hn := Lib.hid (idxFn_nonneg p l)
  have Hs := Lib.hid hs
  have Hf := Lib.hid hf
  clear hs hf
  go_enter Try.func74, Try.ntmps74
  go_wp2_with (go_at_call 82; refine (IndexFunc_any _ _ p _ l _ Hs.out hcf Hf.out).mono ?_; rintro e w1 ⟨rfl, rfl⟩)
  go_ret
  exact ⟨ret_bool Hn.out, rfl⟩
end Go.Proofs.Ytdofiipckcfopaa
