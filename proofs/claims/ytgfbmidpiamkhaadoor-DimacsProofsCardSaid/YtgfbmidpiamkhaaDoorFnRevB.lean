/- slices.Reverse on a row of bytes of the call's own. -/
import Derived.Test.YtgfbmidpiamkhaaDoorRowsO
import Derived.RegionTactic
import Derived.ChangeAlike
namespace Go.Proofs.YtgfbmidpiamkhaaDoor
open Go.RowKit

def byV (n : Nat) : Value := .int .u8 (n : Int)
def revTo (l : List Nat) (k : Nat) : List Nat := (List.range l.length).map fun x => if x < k ∨ l.length - k ≤ x then l.getD (l.length - 1 - x) 0 else l.getD x 0
theorem revTo_length (l : List Nat) (k : Nat) : (revTo l k).length = l.length := by simp [revTo]
theorem revTo_zero (l : List Nat) : revTo l 0 = l := by
  refine List.ext_getElem (revTo_length _ _) fun i h1 h2 => ?_
  simp only [revTo, List.getElem_map, List.getElem_range]
  rw [if_neg (by omega)]; simp [List.getD, h2]
theorem revTo_end {l : List Nat} {k : Nat} (h : l.length ≤ 2 * k + 1) : revTo l k = l.reverse := by
  refine List.ext_getElem (by simp [revTo_length]) fun i h1 h2 => ?_
  have hi : i < l.length := by simpa using h2
  simp only [revTo, List.getElem_map, List.getElem_range, List.getElem_reverse]
  split
  · simp [List.getD, show l.length - 1 - i < l.length by omega]
  · have : l.length - 1 - i = i := by omega
    simp [List.getD, hi, this]
theorem revTo_step {l : List Nat} {k a b : Nat} (h : 2 * k + 1 < l.length) (ha : a = (revTo l k).getD k 0) (hb : b = (revTo l k).getD (l.length - 1 - k) 0) :
    ((revTo l k).set k b).set (l.length - 1 - k) a = revTo l (k + 1) := by
  have hg : ∀ x, x < l.length → (revTo l k).getD x 0 = if x < k ∨ l.length - k ≤ x then l.getD (l.length - 1 - x) 0 else l.getD x 0 := fun x hx => by
    simp [revTo, List.getD, hx]
  refine List.ext_getElem (by simp [revTo_length]) fun i h1 h2 => ?_
  have hi : i < l.length := by simpa [revTo_length] using h2
  rw [hg _ (by omega)] at ha hb
  subst ha hb
  rw [List.getElem_set, List.getElem_set]
  simp only [revTo, List.getElem_map, List.getElem_range]
  by_cases h3 : l.length - 1 - k = i
  · rw [if_pos h3, if_neg (by omega), if_pos (by omega)]
    congr 1; omega
  · rw [if_neg h3]
    by_cases h4 : k = i
    · rw [if_pos h4, if_neg (by omega), if_pos (by omega), h4]
    · rw [if_neg h4]
      by_cases h5 : i < k ∨ l.length - k ≤ i
      · rw [if_pos h5, if_pos (by omega)]
      · rw [if_neg h5, if_neg (by omega)]
theorem own_byCell {w : World} {base : Nat} {e : TypeId} {g n c : Nat} {l : List Nat} (h : w.ownsRow base e 1 (.slice (some ⟨g, 0, none⟩) n c) n (l.map byV)) {i : Nat} (hi : i < l.length) : w.cell? ⟨g, i, none⟩ = some (.int .u8 (l.getD i 0 : Nat)) := by
  have := h.cells (g := g) rfl i (byV l[i]) (by simp [hi])
  rw [add_none, Nat.zero_add] at this
  rw [this, byV]; simp [List.getD, hi]
theorem own_setBy {w : World} {base : Nat} {e : TypeId} {g n c : Nat} {l : List Nat} (h : w.ownsRow base e 1 (.slice (some ⟨g, 0, none⟩) n c) n (l.map byV)) (i x : Nat) : (w.setCell ⟨g, i, none⟩ (.int .u8 (x : Int))).ownsRow base e 1 (.slice (some ⟨g, 0, none⟩) n c) n ((l.set i x).map byV) := by
  have := (h.stored (g := g) (cap := c) i (.int .u8 (x : Int))).1
  rwa [show Value.int .u8 (x : Int) = byV x from rfl, ← List.map_set] at this
def RevPost (base : Nat) (v : Value) (l : List Nat) (w : World) (e : Ending) (w' : World) : Prop :=
  e = .returned (.tuple #[]) ∧ w'.ownsRow base 5 1 v l.length (l.reverse.map byV) ∧ Below base w w'
set_option maxRecDepth 100000 in
set_option maxHeartbeats 1000000 in
theorem ReverseB_any (v : Value) (l : List Nat) (base : Nat) (w : World) (h : w.ownsRow base 5 1 v l.length (l.map byV)) (hn : l.length ≤ 1000000000) :
    Calls Tryd.prog 55 #[v] w (RevPost base v l w) := by
  obtain ⟨A, c, rfl⟩ := own_shape h
  have H := Lib.hid h
  clear h
  go_enter Tryd.func55, Tryd.ntmps55
  go_wp2
  go_loopw [2, 3] (fun sv tv wr => ∃ k : Nat, 2 * k ≤ l.length ∧ sv = .int .i64 k ∧ tv = .int .i64 ((l.length : Int) - 1 - k) ∧ Hid (wr.ownsRow base 5 1 (.slice A l.length c) l.length ((revTo l k).map byV)) ∧ Hid (Below base w wr)) (fun sv _ _ => l.length - (intOf sv).toNat)
  case atStart => exact ⟨0, Nat.zero_le _, rfl, (by simp), (by rw [revTo_zero]; exact H.out), Below.refl _ _⟩
  case round =>
    obtain ⟨w1, rfl⟩ : ∃ w0 : World, w0 = wr := ⟨_, rfl⟩
    obtain ⟨k, hk, rfl, rfl, Ho, Hb⟩ := hrel
    by_cases hlt : 2 * k + 1 < l.length
    · obtain ⟨g, cz, e, hg1, hg2⟩ := own_block Ho.out (by omega)
      cases e
      have hj : ((l.length : Int) - 1 - k) = ((l.length - 1 - k : Nat) : Int) := by omega
      have hrl := revTo_length l k
      have hck := own_byCell Ho.out (i := k) (by omega)
      have hcj := own_byCell Ho.out (i := l.length - 1 - k) (by omega)
      have hfk := Ho.out.frozenAt (g := g) (cap := c) k
      have hfj := Ho.out.frozenAt (g := g) (cap := c) (l.length - 1 - k)
      have hne : k ≠ l.length - 1 - k := by omega
      have Hst := Lib.hid (revTo_step hlt rfl rfl)
      rw [hj]
      obtain ⟨j, hjj⟩ : ∃ j, j = l.length - 1 - k := ⟨_, rfl⟩
      rw [← hjj] at hcj hfj hne Hst ⊢
      have hjl : j < l.length := by omega
      have hkl : k < j := by omega
      obtain ⟨x, hx⟩ : ∃ x, x = (revTo l k).getD k 0 := ⟨_, rfl⟩
      obtain ⟨y, hy⟩ : ∃ y, y = (revTo l k).getD j 0 := ⟨_, rfl⟩
      rw [← hx, ← hy] at Hst
      rw [← hx] at hck
      rw [← hy] at hcj
      have Hjj := Lib.hid hjj
      clear hj hjj hx hy hrl
      have HsA := Lib.hid (own_setBy (own_setBy Ho.out k y) j x)
      have HsB := Lib.hid (own_setBy (own_setBy Ho.out j x) k y)
      rw [Hst.out] at HsA
      rw [List.set_comm x y (fun e => hne e.symm), Hst.out] at HsB
      have HbA := Lib.hid ((Hb.out.setCell (p := ⟨g, k, none⟩) hg1 (.int .u8 (y : Int))).setCell (p := ⟨g, j, none⟩) hg1 (.int .u8 (x : Int)))
      have HbB := Lib.hid ((Hb.out.setCell (p := ⟨g, j, none⟩) hg1 (.int .u8 (x : Int))).setCell (p := ⟨g, k, none⟩) hg1 (.int .u8 (y : Int)))
      go_wp2
      go_region
      all_goals
        go_wp2
        have hjk := Hjj.out
        go_roundw
        case rel => exact ⟨k + 1, by omega, by go_num, (by congr 1; omega), (by first | exact HsA.out | exact HsB.out), (by first | exact below_drewN HbA.out 1 | exact below_drewN HbB.out 1)⟩
        case measure => simp [intOf]; omega
    · have Hrev := Lib.hid (revTo_end (l := l) (k := k) (by omega))
      have hz : (l.length : Int) - 1 - k ≤ k := by omega
      go_wp2
      go_end0
      exact ⟨rfl, by rw [← Hrev.out]; exact Ho.out, Hb.out⟩
end Go.Proofs.YtgfbmidpiamkhaaDoor
