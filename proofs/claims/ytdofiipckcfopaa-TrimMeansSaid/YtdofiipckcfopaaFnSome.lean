/- Whether there are truths of so many variables: what the reference computes. -/
import Derived.Test.YtdofiipckcfopaaFnHolds
import Derived.Test.YtdofiipckcfopaaFnDelF
import Derived.Laws.BitsLemmas
namespace Go.Proofs.Ytdofiipckcfopaa
open Go.RowKit

def bitsOf (n k : Nat) : List Bool := (List.range n).map fun v => decide (k / 2 ^ v % 2 = 1)
theorem bitsOf_length (n k : Nat) : (bitsOf n k).length = n := by simp [bitsOf]
theorem bitsOf_succ (n k : Nat) : bitsOf (n + 1) k = bitsOf n k ++ [decide (k / 2 ^ n % 2 = 1)] := by simp [bitsOf, List.range_succ]
theorem bitsOf_cons (n k : Nat) : bitsOf (n + 1) k = decide (k % 2 = 1) :: bitsOf n (k / 2) := by
  unfold bitsOf
  rw [List.range_succ_eq_map, List.map_cons, List.map_map]
  congr 1
  · simp
  · refine List.map_congr_left fun v _ => ?_
    simp only [Function.comp_apply]
    rw [Nat.pow_succ, Nat.mul_comm, Nat.div_div_eq_div_mul]
theorem bitsOf_all : ∀ o : List Bool, ∃ k, k < 2 ^ o.length ∧ bitsOf o.length k = o
  | [] => ⟨0, by simp, rfl⟩
  | b :: o => by
    obtain ⟨k, hk, he⟩ := bitsOf_all o
    refine ⟨2 * k + (if b then 1 else 0), ?_, ?_⟩
    · rw [List.length_cons, Nat.pow_succ]; split <;> omega
    · rw [List.length_cons, bitsOf_cons]
      have h1 : (2 * k + (if b then 1 else 0)) / 2 = k := by split <;> omega
      rw [h1, he]
      cases b <;> simp <;> omega
/-- There are truths of n variables. -/
def someN (C : List (List Int)) (n : Nat) : Bool := (List.range (2 ^ n)).any fun k => C.all (clauseTrue (bitsOf n k))
theorem someN_iff {C : List (List Int)} {n : Nat} : someN C n = true ↔ ∃ o : List Bool, o.length = n ∧ C.all (clauseTrue o) = true := by
  unfold someN
  rw [List.any_eq_true]
  constructor
  · rintro ⟨k, _, h⟩; exact ⟨_, bitsOf_length n k, h⟩
  · rintro ⟨o, rfl, h⟩
    obtain ⟨k, hk, he⟩ := bitsOf_all o
    exact ⟨k, List.mem_range.2 hk, by rw [he]; exact h⟩
theorem range_any_succ {p : Nat → Bool} {k : Nat} : (List.range (k + 1)).any p = ((List.range k).any p || p k) := by rw [List.range_succ, List.any_append]; simp
theorem bit_one {x : Nat} (hx : x < 1099511627776) : (bits BinOp.and IntKind.i64 (x : Int) 1 == 1) = decide (x % 2 = 1) := by
  have e62 : (2 : Int) ^ 62 = 4611686018427387904 := by decide
  have hw : ∀ n : Int, 0 ≤ n → n < 2 ^ 62 → IntKind.i64.wrap n = n := by
    intro n h0 h1
    rw [e62] at h1
    exact IntWalk.i64_in _ (by omega)
  have h := bits_mask .i64 62 (by decide) hw 1 (by decide) (x : Int) (by omega) (by rw [e62]; omega)
  have e : ((2 : Int) ^ 1 - 1) = 1 := by decide
  have e2 : ((2 : Int) ^ 1) = 2 := by decide
  rw [e, e2] at h
  rw [h, Bool.eq_iff_iff]
  simp
  omega
theorem eBool : Elem1 Try.prog 40 4 1 := elem1_mk (z := .bool false) Try.underlying40 (by kernel_rfl) (by omega) rfl
set_option maxRecDepth 100000 in
set_option maxHeartbeats 2000000 in
theorem Some_any (s : Value) (C : List (List Int)) (n : Nat) (hn : n ≤ 40) (w : World) (hs : RIntss w (Lt w.heap.size) s C) :
    Calls Try.prog 15 #[s, .int .i64 (n : Int)] w fun e w' => e = .returned (.bool (someN C n)) ∧ Below w.heap.size w w' := by
  have Hs := Lib.hid hs
  obtain ⟨A, c, rfl, hm, _⟩ := hs.open_
  clear hs
  obtain ⟨m, hm2⟩ : ∃ m : Nat, m = 2 ^ n := ⟨_, rfl⟩
  have hmb : m ≤ 1099511627776 := by rw [hm2]; exact Nat.pow_le_pow_right (by omega) hn
  have hpow : wrap64 ((2 : Int) ^ n) = (m : Int) := by rw [show (2 : Int) ^ n = (m : Int) by rw [hm2]; simp]; exact IntWalk.wrap64_in _ (by omega)
  have Hm2 := Lib.hid hm2
  clear hm2
  go_enter Try.func15, Try.ntmps15
  go_wp2
  go_loopw [5] (fun sv wr => ∃ k : Nat, k ≤ m ∧ sv = .int .i64 (k : Int) ∧ Below w.heap.size w wr ∧ Hid ((List.range k).any (fun k => C.all (clauseTrue (bitsOf n k))) = false)) (fun sv _ => m - (intOf sv).toNat)
  case atStart => exact ⟨0, Nat.zero_le _, rfl, Below.refl _ _, rfl⟩
  case round =>
    obtain ⟨wk, rfl⟩ : ∃ w0 : World, w0 = wr := ⟨_, rfl⟩
    obtain ⟨k, hkle, rfl, hbel, hinv⟩ := hrel
    have Hbel := Lib.hid hbel
    clear hbel
    by_cases hklt : k < m
    · go_wp2
      rw [hpow]
      go_loopw [7, 6] (fun sv tv wr => ∃ v : Nat, v ≤ n ∧ sv = .int .i64 (v : Int) ∧ Below wk.heap.size wk wr ∧ wr.ownsRow wk.heap.size 4 1 tv v ((bitsOf v k).map Value.bool)) (fun sv _ _ => n - (intOf sv).toNat)
      case atStart => exact ⟨0, Nat.zero_le _, rfl, Below.refl _ _, by simpa [bitsOf] using World.ownsRow_nil _ _ _ _⟩
      case round =>
        obtain ⟨wv, rfl⟩ : ∃ w0 : World, w0 = wr := ⟨_, rfl⟩
        obtain ⟨v, hvle, rfl, hbel2, hown⟩ := hrel
        have Hbel2 := Lib.hid hbel2
        have Hown := Lib.hid hown
        obtain ⟨AT, kT, rfl⟩ := own_shape hown
        clear hbel2 hown
        by_cases hvlt : v < n
        · have hb1 : (bits BinOp.and IntKind.i64 ((k : Int) / 2 ^ v) 1 == 1) = decide (k / 2 ^ v % 2 = 1) := by
            have h2 : ((k : Int) / 2 ^ v) = ((k / 2 ^ v : Nat) : Int) := by simp
            rw [h2]
            exact bit_one (by have := Nat.div_le_self k (2 ^ v); omega)
          have Hbs := Lib.hid (show (bitsOf (v + 1) k).map Value.bool = (bitsOf v k).map Value.bool ++ [.bool (decide (k / 2 ^ v % 2 = 1))] by rw [bitsOf_succ, List.map_append]; rfl)
          obtain ⟨bt, hbt⟩ : ∃ bt, bt = decide (k / 2 ^ v % 2 = 1) := ⟨_, rfl⟩
          rw [← hbt] at hb1 Hbs
          clear hbt
          go_wp2_with (at_builtin; refine wpList_push rfl _ _ _ rfl eBool (v := .slice AT v kT) rfl (Hown.out.alloc _) wv.heap.size (.bool bt) rfl (by simp [go_sem, hb1]) rfl (by omega) (by have := Hbel2.out.size; simp; omega) ?_; intro v1 w5 hown1 hg1 hat1)
          go_roundw
          case rel =>
            refine ⟨v + 1, by omega, by go_num, ?_, ?_⟩
            · exact (Hbel2.out.alloc Hbel2.out.size _).grown hg1 (by have := Hbel2.out.size; simp; omega) (fun i hi => (Hown.out.lt i hi).1)
            · rw [Hbs.out]; exact hown1
          case measure => simp [intOf]; omega
        · obtain rfl : v = n := by omega
          have hrt := reads_of_own (R := RBool) (S := Lt wv.heap.size) (l := bitsOf v k) Hown.out (bitsOf_length _ _) (fun g hg => (Hown.out.lt g hg).2) fun i hi u hu => by
            rw [List.getElem?_map, List.getElem?_eq_getElem hi] at hu
            simpa [RBool, eq_comm] using hu
          have Hh := Lib.hid (Holds_any (.slice A C.length c) (.slice AT v kT) C (bitsOf v k) wv (RIntss.stable.up Hs.out (Hbel.out.trans (Hbel2.out.mono Hbel.out.size))) hrt)
          have Hbw := Lib.hid (Hbel.out.trans (Hbel2.out.mono Hbel.out.size))
          by_cases hh : holdsI C (bitsOf v k) = -1
          · have Hd := Lib.hid (show someN C v = true by
              unfold someN
              rw [List.any_eq_true]
              exact ⟨k, List.mem_range.2 (by rw [← Hm2.out]; exact hklt), holdsI_iff.1 hh⟩)
            have Hhh := Lib.hid hh; clear hh hrt
            go_wp2_with (go_at_call 16; (with_reducible refine Hh.out.mono ?_); rintro e w1 ⟨rfl, rfl⟩; rw [Hhh.out])
            go_ret
            exact ⟨ret_bool Hd.out.symm, Hbw.out⟩
          · obtain ⟨hi, hhi⟩ : ∃ hi : Nat, holdsI C (bitsOf v k) = (hi : Int) := by
              unfold holdsI at hh ⊢
              split at hh
              · next i h => exact ⟨i, rfl⟩
              · exact absurd rfl hh
            have Hn := Lib.hid (show (List.range (k + 1)).any (fun k => C.all (clauseTrue (bitsOf v k))) = false by
              rw [range_any_succ, hinv.out]
              cases h : C.all (clauseTrue (bitsOf v k)) with
              | false => rfl
              | true => exact absurd (holdsI_iff.2 h) hh)
            have Hhi := Lib.hid hhi; clear hh hhi hrt
            go_wp2_with (go_at_call 16; (with_reducible refine Hh.out.mono ?_); rintro e w1 ⟨rfl, rfl⟩; rw [Hhi.out])
            go_roundw
            case rel => exact ⟨k + 1, by omega, by go_num, Hbw.out, Hn.out⟩
            case measure => simp [intOf]; omega
    · obtain rfl : k = m := by omega
      have Hd := Lib.hid (show someN C n = false by unfold someN; rw [← Hm2.out]; exact hinv.out)
      go_wp2
      go_ret
      exact ⟨ret_bool Hd.out.symm, Hbel.out⟩
end Go.Proofs.Ytdofiipckcfopaa
