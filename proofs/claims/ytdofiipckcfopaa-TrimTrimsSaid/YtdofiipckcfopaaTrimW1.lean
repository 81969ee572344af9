/- What the small functions of the layer trim compute: at, isAlways, within, and slices.IndexFunc and ContainsFunc on rows of rows. -/
import Derived.Test.YtdofiipckcfopaaTrimM2
import Derived.Test.YtdofiipckcfopaaFnIdx
namespace Go.Proofs.Ytdofiipckcfopaa
open Go.RowKit

theorem RSl.take_ {α : Type} {R : Rd α} {w : World} {S : Nat → Prop} {A : Option Addr} {n c k : Nat} {l : List α} (h : RSl R w S (.slice A n c) l) (hk : k ≤ n) : RSl R w S (.slice A k c) (l.take k) := by
  obtain ⟨A', c', e, h1, h2, h3⟩ := h
  cases e
  have hl : (l.take k).length = k := by simp; omega
  refine ⟨A, c, by rw [hl], by omega, h2, fun hp => ?_⟩
  obtain ⟨b, off, e, hb, hc⟩ := h3 (by omega)
  exact ⟨b, off, e, hb, fun j hj => by rw [List.getElem_take]; exact hc j (by omega)⟩
theorem RSl.cap_ {α : Type} {R : Rd α} {w : World} {S : Nat → Prop} {A : Option Addr} {n c : Nat} {l : List α} (h : RSl R w S (.slice A n c) l) : n ≤ c := by
  obtain ⟨A', c', e, h1, h2, h3⟩ := h
  cases e; exact h1
def optI (o : Option Nat) : Int := match o with | some k => k | none => -1
theorem hid_first {α : Type} (f : Nat → Option α) : Hid (firstN f 0 = none) := rfl
set_option maxHeartbeats 400000 in
theorem trimAt_any (s : Value) (l : List Int) (w : World) {B : Nat} (hs : RInts w (Lt B) s l) :
    Calls Try.prog 54 #[s] w fun e w' => e = .returned (.int .i64 (optI (dupK l))) ∧ w = w' := by
  have Hs := Lib.hid hs
  obtain ⟨A, c, rfl, hm, hat⟩ := hs.open_
  have Hat := Lib.hid hat; clear hat
  go_enter Try.func54, Try.ntmps54
  go_wp2
  go_loop [7] (fun sv => ∃ k : Nat, k ≤ (l).length ∧ sv = .int .i64 k ∧ Hid (firstN (dupAt l) k = none)) (fun sv => (l).length - (intOf sv).toNat)
  case atStart => exact ⟨0, Nat.zero_le _, rfl, hid_first _⟩
  case round =>
    obtain ⟨k, hkle, rfl, hkinv⟩ := hrel
    by_cases hklt : k < (l).length
    · obtain ⟨bk, offk, uk, rfl, hbk, hcellk, huk⟩ := Hat.out.lt_ hklt
      obtain rfl := huk
      have Ht := Lib.hid (Hs.out.take_ (k := k) (by omega))
      have hkc : k ≤ c := by have := Hs.out.cap_; omega
      cases hx : hasB (l.take k) l[k] with
      | true =>
        have Hk := Lib.hid (show dupK l = some k from firstN_hit hkinv.out (by rw [dupAt, getD_at hklt, hx]; rfl) hklt)
        have Hx := Lib.hid hx; clear hx
        go_wp2_with (go_at_call 73; refine (Contains_any _ _ (l.take k) _ Ht.out).mono ?_; rintro e w1 ⟨rfl, rfl⟩; rw [Hx.out])
        go_ret
        exact ⟨ret_int (by rw [Hk.out]; rfl), rfl⟩
      | false =>
        have Hk := Lib.hid (show firstN (dupAt l) (k + 1) = none from firstN_go hkinv.out (by rw [dupAt, getD_at hklt, hx]; rfl))
        have Hx := Lib.hid hx; clear hx
        go_wp2_with (go_at_call 73; refine (Contains_any _ _ (l.take k) _ Ht.out).mono ?_; rintro e w1 ⟨rfl, rfl⟩; rw [Hx.out])
        go_round
        case rel => exact ⟨k + 1, by omega, by go_num, Hk⟩
        case measure => simp [intOf]; omega
    · obtain rfl : k = (l).length := by omega
      have Hk := Lib.hid (show optI (dupK l) = -1 by rw [dupK, hkinv.out]; rfl)
      go_wp2
      go_ret
      exact ⟨ret_int Hk.out.symm, rfl⟩

def negW (n : Int) : Int := wrap64 (-n)
theorem negW_eq {n : Int} (h1 : -9223372036854775807 ≤ n) (h2 : n ≤ 9223372036854775807) : negW n = -n := IntWalk.wrap64_in (-n) (by omega)
set_option maxHeartbeats 400000 in
theorem alwFn_any (x : Int) (b : Nat) (s : Value) (l : List Int) (w : World) {B : Nat} (hc : w.cell? ⟨b, 0, none⟩ = some s) (hs : RInts w (Lt B) s l) :
    Calls Try.prog 75 #[.int .i64 x, .pointer (some ⟨b, 0, none⟩)] w fun e w' => e = .returned (.bool (hasB l (negW x))) ∧ w = w' := by
  have Hs := Lib.hid hs
  obtain ⟨A, c, rfl, _, _⟩ := hs
  go_enter Try.func75, Try.ntmps75
  go_wp2_with (go_at_call 73; refine (Contains_any _ _ l _ Hs.out).mono ?_; rintro e w1 ⟨rfl, rfl⟩)
  go_ret
  exact ⟨rfl, rfl⟩
theorem callFunc_alw : ∀ (args : Array Value) (w : World), (callFunc 75 args).run Try.prog w = .ok (.enter 75 args) w := callFunc_run Try.func75 (by kernel_rfl) (by kernel_rfl)
theorem alwaysB_eq {vars : Nat} {c : List Int} (h : clOk vars c) (hv : vars ≤ 1024) : (c.any fun n => hasB c (negW n)) = alwaysB c := by
  unfold alwaysB
  rw [Bool.eq_iff_iff, List.any_eq_true, List.any_eq_true]
  constructor
  · rintro ⟨x, hx, hh⟩
    obtain ⟨_, h1, h2⟩ := h.2 x hx
    exact ⟨x, hx, by rwa [negW_eq (by omega) (by omega)] at hh⟩
  · rintro ⟨x, hx, hh⟩
    obtain ⟨_, h1, h2⟩ := h.2 x hx
    exact ⟨x, hx, by rwa [negW_eq (by omega) (by omega)]⟩
set_option maxHeartbeats 400000 in
theorem isAlways_any {vars : Nat} (s : Value) (l : List Int) (w : World) (hs : RInts w (Lt w.heap.size) s l) (hok : clOk vars l) (hv : vars ≤ 1024) :
    Calls Try.prog 56 #[s] w fun e w' => e = .returned (.bool (alwaysB l)) ∧ Below w.heap.size w w' := by
  have Heq := Lib.hid (alwaysB_eq hok hv)
  have Hs := Lib.hid hs
  obtain ⟨A, c, rfl, _, _⟩ := hs
  have Hs1 := Lib.hid (RInts.stable.up Hs.out (below_alloc w (.cells #[.slice A l.length c] 27)))
  have hcl : (w.alloc (.cells #[.slice A l.length c] 27)).cell? ⟨w.heap.size, 0, none⟩ = some (.slice A l.length c) := by simp [go_sem]
  have Hf := Lib.hid (fun x => alwFn_any x w.heap.size _ l _ hcl Hs1.out)
  clear hcl
  go_enter Try.func56, Try.ntmps56
  go_wp2_with (go_at_call 74; refine (ContainsFunc_any _ _ _ _ l _ Hs1.out callFunc_alw Hf.out).mono ?_; rintro e w1 ⟨rfl, rfl⟩)
  go_ret
  exact ⟨ret_bool Heq.out, below_alloc _ _⟩
theorem callFunc_isAlw : ∀ (args : Array Value) (w : World), (callFunc 56 args).run Try.prog w = .ok (.enter 56 args) w := callFunc_run Try.func56 (by kernel_rfl) (by kernel_rfl)
set_option maxHeartbeats 400000 in
theorem within_any (s s2 : Value) (a b : List Int) (w : World) {B : Nat} (hs : RInts w (Lt B) s a) (hs2 : RInts w (Lt B) s2 b) :
    Calls Try.prog 62 #[s, s2] w fun e w' => e = .returned (.bool (withinB a b)) ∧ w = w' := by
  obtain ⟨A, c, rfl, hm, hat⟩ := hs.open_
  have Hat := Lib.hid hat; clear hat
  have Hs2 := Lib.hid hs2
  obtain ⟨A2, c2, rfl, _, _⟩ := hs2
  go_enter Try.func62, Try.ntmps62
  go_wp2
  go_loop [9] (fun sv => ∃ k : Nat, k ≤ (a).length ∧ sv = .int .i64 k ∧ Hid ((a.take k).all (hasB b) = true)) (fun sv => (a).length - (intOf sv).toNat)
  case atStart => exact ⟨0, Nat.zero_le _, rfl, rfl⟩
  case round =>
    obtain ⟨k, hkle, rfl, hkinv⟩ := hrel
    by_cases hklt : k < (a).length
    · obtain ⟨bk, offk, uk, rfl, hbk, hcellk, huk⟩ := Hat.out.lt_ hklt
      obtain rfl := huk
      cases hx : hasB b a[k] with
      | true =>
        have Hx := Lib.hid hx; clear hx
        go_wp2_with (go_at_call 73; refine (Contains_any _ _ b _ Hs2.out).mono ?_; rintro e w1 ⟨rfl, rfl⟩; rw [Hx.out])
        go_round
        case rel => exact ⟨k + 1, by omega, by go_num, (by rw [Hid, all_take_succ _ _ _ hklt, hkinv.out, Hx.out]; rfl)⟩
        case measure => simp [intOf]; omega
      | false =>
        have Hd := Lib.hid (show withinB a b = false from all_at (h := hklt) hx)
        have Hx := Lib.hid hx; clear hx
        go_wp2_with (go_at_call 73; refine (Contains_any _ _ b _ Hs2.out).mono ?_; rintro e w1 ⟨rfl, rfl⟩; rw [Hx.out])
        go_ret
        exact ⟨ret_bool Hd.out.symm, rfl⟩
    · obtain rfl : k = (a).length := by omega
      rw [List.take_length] at hkinv
      go_wp2
      go_ret
      exact ⟨ret_bool hkinv.out.symm, rfl⟩

def idxL {α : Type} (p : α → Bool) (l : List α) : Int := match l.findIdx? p with | some i => i | none => -1
theorem idxL_nonneg {α : Type} (p : α → Bool) (l : List α) : decide (0 ≤ idxL p l) = l.any p := by
  unfold idxL
  cases h : l.findIdx? p with
  | none =>
    have := List.findIdx?_eq_none_iff.1 h
    have hn : l.any p = false := by rw [List.any_eq_false]; intro x hx; simp [this x hx]
    simp [hn]
  | some i =>
    obtain ⟨hi, hp, _⟩ := List.findIdx?_eq_some_iff_getElem.1 h
    simp [any_at (h := hi) hp]
set_option maxHeartbeats 1000000 in
theorem IndexFuncL_any (f : FuncId) (p : List Int → Bool) (s : Value) (C : Cls) (w : World) (hs : RIntss w (Lt w.heap.size) s C)
    (hcf : ∀ (args : Array Value) (w : World), (callFunc f args).run Try.prog w = .ok (.enter f args) w)
    (hf : ∀ c, c ∈ C → ∀ (w' : World) (u : Value), RInts w' (Lt w'.heap.size) u c → Calls Try.prog f #[u] w' fun e w'' => e = .returned (.bool (p c)) ∧ Below w'.heap.size w' w'') :
    Calls Try.prog 55 #[s, .func (.func f) #[] #[]] w fun e w' => e = .returned (.int .i64 (idxL p C)) ∧ Below w.heap.size w w' := by
  obtain ⟨A, c, rfl, hm, hat⟩ := hs.open_
  have Hat := Lib.hid hat; clear hat
  have Hf := Lib.hid hf; clear hf
  go_enter Try.func55, Try.ntmps55
  go_wp2
  go_loopw [8] (fun sv wr => ∃ k : Nat, k ≤ (C).length ∧ sv = .int .i64 k ∧ Below w.heap.size w wr ∧ Hid ((C.take k).any p = false)) (fun sv _ => (C).length - (intOf sv).toNat)
  case atStart => exact ⟨0, Nat.zero_le _, rfl, Below.refl _ _, hid_nil_any _ _⟩
  case round =>
    obtain ⟨wk, rfl⟩ : ∃ w0 : World, w0 = wr := ⟨_, rfl⟩
    obtain ⟨k, hkle, rfl, hkbel, hkinv⟩ := hrel
    by_cases hklt : k < (C).length
    · obtain ⟨bk, offk, uk, rfl, hbk, hcellk, huk⟩ := Hat.out.at_ RInts.stable (ag_of_below hkbel) hklt
      have hu1 := RInts.stable.sub huk (S' := Lt wk.heap.size) fun b (hb : b < _) => (Nat.lt_of_lt_of_le hb hkbel.size : b < _)
      have Hc := Lib.hid (Hf.out _ (List.getElem_mem hklt) wk uk hu1)
      clear hu1 huk
      cases hx : p C[k] with
      | true =>
        have Hi := Lib.hid (findIdx_some_of (p := p) hklt hkinv hx)
        have Hx := Lib.hid hx; clear hx
        go_wp2_with fail
        refine Hc.out.mono ?_
        rintro e w1 ⟨rfl, hb1⟩
        rw [Hx.out]
        go_wp2
        go_ret
        exact ⟨ret_int (by rw [idxL, Hi.out]), hkbel.trans (hb1.mono hkbel.size)⟩
      | false =>
        have Hx := Lib.hid hx; clear hx
        go_wp2_with fail
        refine Hc.out.mono ?_
        rintro e w1 ⟨rfl, hb1⟩
        rw [Hx.out]
        go_wp2
        go_roundw
        case rel => exact ⟨k + 1, by omega, by go_num, (hkbel.trans (hb1.mono hkbel.size)), (hid_any_succ hklt hkinv Hx.out)⟩
        case measure => simp [intOf]; omega
    · obtain rfl : k = (C).length := by omega
      go_wp2
      go_ret
      exact ⟨ret_int (by rw [idxL, findIdx_none_of hkinv]), hkbel⟩
set_option maxHeartbeats 400000 in
theorem ContainsFuncL_any (f : FuncId) (p : List Int → Bool) (s : Value) (C : Cls) (w : World) (hs : RIntss w (Lt w.heap.size) s C)
    (hcf : ∀ (args : Array Value) (w : World), (callFunc f args).run Try.prog w = .ok (.enter f args) w)
    (hf : ∀ c, c ∈ C → ∀ (w' : World) (u : Value), RInts w' (Lt w'.heap.size) u c → Calls Try.prog f #[u] w' fun e w'' => e = .returned (.bool (p c)) ∧ Below w'.heap.size w' w'') :
    Calls Try.prog 58 #[s, .func (.func f) #[] #[]] w fun e w' => e = .returned (.bool (C.any p)) ∧ Below w.heap.size w w' := by
  have Hn := Lib.hid (idxL_nonneg p C)
  have Hs := Lib.hid hs
  have Hf := Lib.hid hf
  clear hs hf
  go_enter Try.func58, Try.ntmps58
  go_wp2_with (go_at_call 55; refine (IndexFuncL_any _ p _ C _ Hs.out hcf Hf.out).mono ?_; rintro e w1 ⟨rfl, hb⟩)
  go_ret
  exact ⟨ret_bool Hn.out, hb⟩
end Go.Proofs.Ytdofiipckcfopaa
