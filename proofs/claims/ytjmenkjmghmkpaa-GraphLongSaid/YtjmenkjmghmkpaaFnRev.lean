/- slices.Reverse on a row of numbers of the call's own; slices.IndexFunc with a closure that caught two variables and reads. -/
import Derived.Test.YtjmenkjmghmkpaaGrM
import Derived.Test.YtjmenkjmghmkpaaRowsO
import Derived.RegionTactic
import Derived.ChangeAlike
namespace Go.Proofs.Ytjmenkjmghmkpaa
open Go.RowKit
open G22

def revTo (l : List Nat) (k : Nat) : List Nat := (List.range l.length).map fun x => if x < k ∨ l.length - k ≤ x then l.getD (l.length - 1 - x) 0 else l.getD x 0
theorem revTo_length (l : List Nat) (k : Nat) : (revTo l k).length = l.length := by simp [revTo]
theorem revTo_zero (l : List Nat) : revTo l 0 = l := by
  refine List.ext_getElem (revTo_length _ _) fun i h1 h2 => ?_
  simp only [revTo, List.getElem_map, List.getElem_range]
  rw [if_neg (by omega)]; simp [List.getD, h2]
theorem revTo_end {l : List Nat} {k : Nat} (h : l.length ≤ 2 * k + 1) : revTo l k = l.reverse := by
  refine List.ext_getElem (by simp [revTo_length]) fun i h1 h2 => ?_
  have hi : i < l.length := by simpa using h2
  simp only [revTo, List.getElem_map, List.getElem_range, List.getElem_reverse]
  split
  · simp [List.getD, show l.length - 1 - i < l.length by omega]
  · have : l.length - 1 - i = i := by omega
    simp [List.getD, hi, this]
theorem revTo_step {l : List Nat} {k a b : Nat} (h : 2 * k + 1 < l.length) (ha : a = (revTo l k).getD k 0) (hb : b = (revTo l k).getD (l.length - 1 - k) 0) :
    ((revTo l k).set k b).set (l.length - 1 - k) a = revTo l (k + 1) := by
  have hg : ∀ x, x < l.length → (revTo l k).getD x 0 = if x < k ∨ l.length - k ≤ x then l.getD (l.length - 1 - x) 0 else l.getD x 0 := fun x hx => by
    simp [revTo, List.getD, hx]
  refine List.ext_getElem (by simp [revTo_length]) fun i h1 h2 => ?_
  have hi : i < l.length := by simpa [revTo_length] using h2
  rw [hg _ (by omega)] at ha hb
  subst ha hb
  rw [List.getElem_set, List.getElem_set]
  simp only [revTo, List.getElem_map, List.getElem_range]
  by_cases h3 : l.length - 1 - k = i
  · rw [if_pos h3, if_neg (by omega), if_pos (by omega)]
    congr 1; omega
  · rw [if_neg h3]
    by_cases h4 : k = i
    · rw [if_pos h4, if_neg (by omega), if_pos (by omega), h4]
    · rw [if_neg h4]
      by_cases h5 : i < k ∨ l.length - k ≤ i
      · rw [if_pos h5, if_pos (by omega)]
      · rw [if_neg h5, if_neg (by omega)]
theorem own_natCell {w : World} {base : Nat} {e : TypeId} {g n c : Nat} {l : List Nat} (h : w.ownsRow base e 1 (.slice (some ⟨g, 0, none⟩) n c) n (l.map natV)) {i : Nat} (hi : i < l.length) : w.cell? ⟨g, i, none⟩ = some (.int .i64 (l.getD i 0 : Nat)) := by
  have := h.cells (g := g) rfl i (natV l[i]) (by simp [hi])
  rw [add_none, Nat.zero_add] at this
  rw [this, natV]; simp [List.getD, hi]
theorem own_setNat {w : World} {base : Nat} {e : TypeId} {g n c : Nat} {l : List Nat} (h : w.ownsRow base e 1 (.slice (some ⟨g, 0, none⟩) n c) n (l.map natV)) (i x : Nat) : (w.setCell ⟨g, i, none⟩ (.int .i64 (x : Int))).ownsRow base e 1 (.slice (some ⟨g, 0, none⟩) n c) n ((l.set i x).map natV) := by
  have := (h.stored (g := g) (cap := c) i (.int .i64 (x : Int))).1
  rwa [show Value.int .i64 (x : Int) = natV x from rfl, ← List.map_set] at this
def RevPost (base : Nat) (v : Value) (l : List Nat) (w : World) (e : Ending) (w' : World) : Prop :=
  e = .returned (.tuple #[]) ∧ w'.ownsRow base 3 1 v l.length (l.reverse.map natV) ∧ Below base w w'
set_option maxRecDepth 100000 in
set_option maxHeartbeats 1000000 in
theorem Reverse_any (v : Value) (l : List Nat) (base : Nat) (w : World) (h : w.ownsRow base 3 1 v l.length (l.map natV)) (hn : l.length ≤ 1000000000) :
    Calls Try.prog 31 #[v] w (RevPost base v l w) := by
  obtain ⟨A, c, rfl⟩ := own_shape h
  have H := Lib.hid h
  clear h
  go_enter Try.func31, Try.ntmps31
  go_wp2
  go_loopw [2, 3] (fun sv tv wr => ∃ k : Nat, 2 * k ≤ l.length ∧ sv = .int .i64 k ∧ tv = .int .i64 ((l.length : Int) - 1 - k) ∧ Hid (wr.ownsRow base 3 1 (.slice A l.length c) l.length ((revTo l k).map natV)) ∧ Hid (Below base w wr)) (fun sv _ _ => l.length - (intOf sv).toNat)
  case atStart => exact ⟨0, Nat.zero_le _, rfl, (by simp), (by rw [revTo_zero]; exact H.out), Below.refl _ _⟩
  case round =>
    obtain ⟨w1, rfl⟩ : ∃ w0 : World, w0 = wr := ⟨_, rfl⟩
    obtain ⟨k, hk, rfl, rfl, Ho, Hb⟩ := hrel
    by_cases hlt : 2 * k + 1 < l.length
    · obtain ⟨g, cz, e, hg1, hg2⟩ := own_block Ho.out (by omega)
      cases e
      have hj : ((l.length : Int) - 1 - k) = ((l.length - 1 - k : Nat) : Int) := by omega
      have hrl := revTo_length l k
      have hck := own_natCell Ho.out (i := k) (by omega)
      have hcj := own_natCell Ho.out (i := l.length - 1 - k) (by omega)
      have hfk := Ho.out.frozenAt (g := g) (cap := c) k
      have hfj := Ho.out.frozenAt (g := g) (cap := c) (l.length - 1 - k)
      have hne : k ≠ l.length - 1 - k := by omega
      have Hst := Lib.hid (revTo_step hlt rfl rfl)
      rw [hj]
      obtain ⟨j, hjj⟩ : ∃ j, j = l.length - 1 - k := ⟨_, rfl⟩
      rw [← hjj] at hcj hfj hne Hst ⊢
      have hjl : j < l.length := by omega
      have hkl : k < j := by omega
      obtain ⟨x, hx⟩ : ∃ x, x = (revTo l k).getD k 0 := ⟨_, rfl⟩
      obtain ⟨y, hy⟩ : ∃ y, y = (revTo l k).getD j 0 := ⟨_, rfl⟩
      rw [← hx, ← hy] at Hst
      rw [← hx] at hck
      rw [← hy] at hcj
      have Hjj := Lib.hid hjj
      clear hj hjj hx hy hrl
      have HsA := Lib.hid (own_setNat (own_setNat Ho.out k y) j x)
      have HsB := Lib.hid (own_setNat (own_setNat Ho.out j x) k y)
      rw [Hst.out] at HsA
      rw [List.set_comm x y (fun e => hne e.symm), Hst.out] at HsB
      have HbA := Lib.hid ((Hb.out.setCell (p := ⟨g, k, none⟩) hg1 (.int .i64 (y : Int))).setCell (p := ⟨g, j, none⟩) hg1 (.int .i64 (x : Int)))
      have HbB := Lib.hid ((Hb.out.setCell (p := ⟨g, j, none⟩) hg1 (.int .i64 (x : Int))).setCell (p := ⟨g, k, none⟩) hg1 (.int .i64 (y : Int)))
      go_wp2
      go_region
      all_goals
        go_wp2
        have hjk := Hjj.out
        go_roundw
        case rel => exact ⟨k + 1, by omega, by go_num, (by congr 1; omega), (by first | exact HsA.out | exact HsB.out), (by first | exact below_drewN HbA.out 1 | exact below_drewN HbB.out 1)⟩
        case measure => simp [intOf]; omega
    · have Hrev := Lib.hid (revTo_end (l := l) (k := k) (by omega))
      have hz : (l.length : Int) - 1 - k ≤ k := by omega
      go_wp2
      go_end0
      exact ⟨rfl, by rw [← Hrev.out]; exact Ho.out, Hb.out⟩
def idxN (p : Nat → Bool) (l : List Nat) : Int := match l.findIdx? p with | some i => (i : Int) | none => -1
theorem idxN_find {p : Nat → Bool} {l : List Nat} {x : Nat} (h : l.find? p = some x) : ∃ (i : Nat) (hi : i < l.length), idxN p l = (i : Int) ∧ l[i] = x := by
  obtain ⟨hp, ys, zs, rfl, hn⟩ := List.find?_eq_some_iff_append.1 h
  refine ⟨ys.length, by simp, ?_, by simp⟩
  unfold idxN
  rw [findIdx_some_of (k := ys.length) (by simp) ?_ (by simpa using hp)]
  show ((ys ++ x :: zs).take ys.length).any p = false
  rw [List.take_left', List.any_eq_false]
  · intro y hy; have := hn y hy; simpa using this
  · rfl
set_option maxHeartbeats 400000 in
theorem IndexFunc2_any (f : FuncId) (c1 c2 : Value) (p : Nat → Bool) (s : Value) (l : List Nat) (w : World) {S : Nat → Prop} (hs : RNats w S s l)
    (hcf : ∀ (args : Array Value) (w : World), (callFunc f args).run Try.prog w = .ok (.enter f args) w)
    (hf : ∀ x m, x ∈ l → Calls Try.prog f #[.int .i64 (x : Nat), c1, c2] (w.drewN m) fun e w' => e = .returned (.bool (p x)) ∧ ∃ n, w' = (w.drewN m).drewN n) :
    Calls Try.prog 29 #[s, .func (.func f) #[] #[c1, c2]] w fun e w' => e = .returned (.int .i64 (idxN p l)) ∧ ∃ n, w' = w.drewN n := by
  obtain ⟨A, c, rfl, hm, hat⟩ := hs.open_
  have Hat := Lib.hid hat; clear hat
  have Hf := Lib.hid hf; clear hf
  go_enter Try.func29, Try.ntmps29
  go_wp2
  go_loopw [8] (fun sv wr => ∃ k : Nat, k ≤ l.length ∧ sv = .int .i64 k ∧ (∃ n, wr = w.drewN n) ∧ Hid ((l.take k).any p = false)) (fun sv _ => l.length - (intOf sv).toNat)
  case atStart => exact ⟨0, Nat.zero_le _, rfl, ⟨0, rfl⟩, hid_nil_any _ _⟩
  case round =>
    obtain ⟨k, hkle, rfl, ⟨n2, rfl⟩, hinv⟩ := hrel
    by_cases hklt : k < l.length
    · obtain ⟨b3, off3, e3, hb3, hc3⟩ := Hat.out (by omega)
      subst e3
      obtain ⟨u3, hcell3, hu3⟩ := hc3 k hklt
      obtain rfl := hu3
      unfold natV at hcell3
      clear hc3
      have Hc := Lib.hid (Hf.out l[k] n2 (List.getElem_mem hklt))
      cases hx : p l[k] with
      | true =>
        have Hi := Lib.hid (findIdx_some_of (p := p) hklt hinv hx)
        have Hx := Lib.hid hx; clear hx
        go_wp2_with fail
        refine Hc.out.mono ?_
        rintro e w1 ⟨rfl, n3, rfl⟩
        rw [Hx.out]
        go_wp2
        go_ret
        exact ⟨ret_int (by rw [idxN, Hi.out]), _, rfl⟩
      | false =>
        have Hx := Lib.hid hx; clear hx
        go_wp2_with fail
        refine Hc.out.mono ?_
        rintro e w1 ⟨rfl, n3, rfl⟩
        rw [Hx.out]
        go_wp2
        go_roundw
        case rel => exact ⟨k + 1, by omega, by go_num, ⟨_, rfl⟩, hid_any_succ hklt hinv Hx.out⟩
        case measure => simp [intOf]; omega
    · obtain rfl : k = l.length := by omega
      go_wp2
      go_ret
      exact ⟨ret_int (by rw [idxN, findIdx_none_of hinv]), _, rfl⟩
end Go.Proofs.Ytjmenkjmghmkpaa
