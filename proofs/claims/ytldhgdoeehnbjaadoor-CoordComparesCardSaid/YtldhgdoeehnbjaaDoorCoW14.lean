/- the reference's Compare. -/
import Derived.Test.YtldhgdoeehnbjaaDoorCoW13
namespace Go.Proofs.YtldhgdoeehnbjaaDoor
open Go.RowKit

structure TwoS (w : World) (p q : Nat) (a b c d x y z u : ByteArray) (w' : World) : Prop where
  below : Below w.heap.size w w'
  p0 : w'.heap[p]? = some (.cells #[.string a, .string b, .string c, .string d] 9)
  q0 : w'.heap[q]? = some (.cells #[.string x, .string y, .string z, .string u] 9)
theorem TwoS.cells {w w' : World} {p q : Nat} {a b c d x y z u : ByteArray} (h : TwoS w p q a b c d x y z u w') : (w'.cell? ⟨p, 0, none⟩ = some (.string a) ∧ w'.cell? ⟨p, 1, none⟩ = some (.string b) ∧ w'.cell? ⟨p, 2, none⟩ = some (.string c) ∧ w'.cell? ⟨p, 3, none⟩ = some (.string d)) ∧
    w'.cell? ⟨q, 0, none⟩ = some (.string x) ∧ w'.cell? ⟨q, 1, none⟩ = some (.string y) ∧ w'.cell? ⟨q, 2, none⟩ = some (.string z) ∧ w'.cell? ⟨q, 3, none⟩ = some (.string u) :=
  ⟨⟨cell_of_row _ _ 0 _ _ (0, 0) h.p0, cell_of_row _ _ 1 _ _ (0, 0) h.p0, cell_of_row _ _ 2 _ _ (0, 0) h.p0, cell_of_row _ _ 3 _ _ (0, 0) h.p0⟩, cell_of_row _ _ 0 _ _ (0, 0) h.q0, cell_of_row _ _ 1 _ _ (0, 0) h.q0, cell_of_row _ _ 2 _ _ (0, 0) h.q0, cell_of_row _ _ 3 _ _ (0, 0) h.q0⟩
theorem less_yes {a b : ByteArray} (h : cb a.data.toList b.data.toList = -1) : Op.bytesLess a.toList b.toList = true ∧ Op.bytesLess b.toList a.toList = false := by
  have := cb_neg a.data.toList b.data.toList
  rw [ByteArray.toList_eq, ByteArray.toList_eq, less_cb, less_cb]
  exact ⟨decide_eq_true h, decide_eq_false (by omega)⟩
theorem less_no {a b : ByteArray} (h : cb a.data.toList b.data.toList = 0) : Op.bytesLess a.toList b.toList = false ∧ (a.toList == b.toList) = true := by
  have e := cb_zero.1 h
  rw [ByteArray.toList_eq, ByteArray.toList_eq, less_cb]
  exact ⟨decide_eq_false (by omega), beq_iff_eq.2 e⟩
theorem less_more {a b : ByteArray} (h : cb a.data.toList b.data.toList = 1) : Op.bytesLess a.toList b.toList = false ∧ (a.toList == b.toList) = false := by
  rw [ByteArray.toList_eq, ByteArray.toList_eq, less_cb]
  exact ⟨decide_eq_false (by omega), beq_eq_false_iff_ne.2 (fun e => by have := cb_zero.2 e; omega)⟩
set_option maxHeartbeats 4000000 in
theorem RefCompare_n (a b c d x y z u : ByteArray) (n : Int) (HN : Hid (cmpT [a.data.toList, b.data.toList, c.data.toList, d.data.toList] [x.data.toList, y.data.toList, z.data.toList, u.data.toList] = n)) (w : World) : Calls Tryd.prog 21 #[.agg #[.string a, .string b, .string c, .string d], .agg #[.string x, .string y, .string z, .string u]] w fun e w' => e = .returned (.int .i64 n) ∧ Below w.heap.size w w' := by
  go_enter Tryd.func21, Tryd.ntmps21
  go_wp2
  obtain ⟨p, hp⟩ : ∃ p, p = w.heap.size + 1 + 1 := ⟨_, rfl⟩
  obtain ⟨q, hq⟩ : ∃ q, q = w.heap.size + 1 + 1 + 1 := ⟨_, rfl⟩
  rw [← hq, ← hp]
  have Hp := Lib.hid hp
  have Hq := Lib.hid hq
  clear hp hq
  go_loopw [28] (fun sv wr => ∃ k : Nat, k ≤ 4 ∧ sv = .int .i64 k ∧ Hid (TwoS w p q a b c d x y z u wr) ∧ Hid (cmpT (([a.data.toList, b.data.toList, c.data.toList, d.data.toList]).drop k) (([x.data.toList, y.data.toList, z.data.toList, u.data.toList]).drop k) = n)) (fun sv _ => 4 - (intOf sv).toNat)
  case atStart =>
    refine ⟨0, by omega, rfl, Lib.hid ⟨?_, ?_, ?_⟩, HN⟩
    · repeat (first | exact below_alloc w _ | refine Below.drew ?_ | refine Below.alloc ?_ (by first | omega | (simp; done) | (simp; omega)) _)
    · rw [Hp.out]
      show (World.alloc _ _).heap[_]? = _
      repeat (first | (refine heap_new ?_; simp; done) | refine heap_at_alloc ?_)
    · rw [Hq.out]
      show (World.alloc _ _).heap[_]? = _
      repeat (first | (refine heap_new ?_; simp; done) | refine heap_at_alloc ?_)
  case round =>
    obtain ⟨k, hk, rfl, HT, HC⟩ := hrel
    obtain ⟨⟨c0, c1, c2, c3⟩, d0, d1, d2, d3⟩ := HT.out.cells
    have HB := Lib.hid HT.out.below
    rcases (by omega : k = 0 ∨ k = 1 ∨ k = 2 ∨ k = 3 ∨ k = 4) with rfl | rfl | rfl | rfl | rfl
    · rcases cb_range a.data.toList x.data.toList with h0 | h0 | h0
      · obtain rfl : -1 = n := h0.symm.trans (cmpT_stop HC.out (by omega))
        obtain ⟨hl1, hl2⟩ := less_yes h0
        go_upto_region 6 with (fail)
        go_quiet (fail)
        go_wp2
        first | exact bodyPost_ret (results_tmp rfl _ _ _) rfl ⟨rfl, below_drewN HB.out _⟩ | exact bodyPost_ret (results_tmp rfl _ _ _) rfl ⟨rfl, below_drewN (below_drewN HB.out _) _⟩
      · have HC' := Lib.hid (cmpT_step HC.out h0)
        obtain ⟨hl1, hl2⟩ := less_no h0
        go_upto_region 6 with (fail)
        go_quiet (fail)
        go_upto_region 8 with (fail)
        go_quiet (fail)
        go_wp2
        go_roundw
        case rel => exact ⟨1, by omega, rfl, Lib.hid ⟨below_drewN HB.out _, HT.out.p0, HT.out.q0⟩, HC'⟩
        case measure => simp [intOf]
      · obtain rfl : 1 = n := h0.symm.trans (cmpT_stop HC.out (by omega))
        obtain ⟨hl1, hl2⟩ := less_more h0
        go_upto_region 6 with (fail)
        go_quiet (fail)
        go_upto_region 8 with (fail)
        go_quiet (fail)
        go_wp2
        first | exact bodyPost_ret (results_tmp rfl _ _ _) rfl ⟨rfl, below_drewN HB.out _⟩ | exact bodyPost_ret (results_tmp rfl _ _ _) rfl ⟨rfl, below_drewN (below_drewN HB.out _) _⟩
    · rcases cb_range b.data.toList y.data.toList with h0 | h0 | h0
      · obtain rfl : -1 = n := h0.symm.trans (cmpT_stop HC.out (by omega))
        obtain ⟨hl1, hl2⟩ := less_yes h0
        go_upto_region 6 with (fail)
        go_quiet (fail)
        go_wp2
        first | exact bodyPost_ret (results_tmp rfl _ _ _) rfl ⟨rfl, below_drewN HB.out _⟩ | exact bodyPost_ret (results_tmp rfl _ _ _) rfl ⟨rfl, below_drewN (below_drewN HB.out _) _⟩
      · have HC' := Lib.hid (cmpT_step HC.out h0)
        obtain ⟨hl1, hl2⟩ := less_no h0
        go_upto_region 6 with (fail)
        go_quiet (fail)
        go_upto_region 8 with (fail)
        go_quiet (fail)
        go_wp2
        go_roundw
        case rel => exact ⟨2, by omega, rfl, Lib.hid ⟨below_drewN HB.out _, HT.out.p0, HT.out.q0⟩, HC'⟩
        case measure => simp [intOf]
      · obtain rfl : 1 = n := h0.symm.trans (cmpT_stop HC.out (by omega))
        obtain ⟨hl1, hl2⟩ := less_more h0
        go_upto_region 6 with (fail)
        go_quiet (fail)
        go_upto_region 8 with (fail)
        go_quiet (fail)
        go_wp2
        first | exact bodyPost_ret (results_tmp rfl _ _ _) rfl ⟨rfl, below_drewN HB.out _⟩ | exact bodyPost_ret (results_tmp rfl _ _ _) rfl ⟨rfl, below_drewN (below_drewN HB.out _) _⟩
    · rcases cb_range c.data.toList z.data.toList with h0 | h0 | h0
      · obtain rfl : -1 = n := h0.symm.trans (cmpT_stop HC.out (by omega))
        obtain ⟨hl1, hl2⟩ := less_yes h0
        go_upto_region 6 with (fail)
        go_quiet (fail)
        go_wp2
        first | exact bodyPost_ret (results_tmp rfl _ _ _) rfl ⟨rfl, below_drewN HB.out _⟩ | exact bodyPost_ret (results_tmp rfl _ _ _) rfl ⟨rfl, below_drewN (below_drewN HB.out _) _⟩
      · have HC' := Lib.hid (cmpT_step HC.out h0)
        obtain ⟨hl1, hl2⟩ := less_no h0
        go_upto_region 6 with (fail)
        go_quiet (fail)
        go_upto_region 8 with (fail)
        go_quiet (fail)
        go_wp2
        go_roundw
        case rel => exact ⟨3, by omega, rfl, Lib.hid ⟨below_drewN HB.out _, HT.out.p0, HT.out.q0⟩, HC'⟩
        case measure => simp [intOf]
      · obtain rfl : 1 = n := h0.symm.trans (cmpT_stop HC.out (by omega))
        obtain ⟨hl1, hl2⟩ := less_more h0
        go_upto_region 6 with (fail)
        go_quiet (fail)
        go_upto_region 8 with (fail)
        go_quiet (fail)
        go_wp2
        first | exact bodyPost_ret (results_tmp rfl _ _ _) rfl ⟨rfl, below_drewN HB.out _⟩ | exact bodyPost_ret (results_tmp rfl _ _ _) rfl ⟨rfl, below_drewN (below_drewN HB.out _) _⟩
    · rcases cb_range d.data.toList u.data.toList with h0 | h0 | h0
      · obtain rfl : -1 = n := h0.symm.trans (cmpT_stop HC.out (by omega))
        obtain ⟨hl1, hl2⟩ := less_yes h0
        go_upto_region 6 with (fail)
        go_quiet (fail)
        go_wp2
        first | exact bodyPost_ret (results_tmp rfl _ _ _) rfl ⟨rfl, below_drewN HB.out _⟩ | exact bodyPost_ret (results_tmp rfl _ _ _) rfl ⟨rfl, below_drewN (below_drewN HB.out _) _⟩
      · have HC' := Lib.hid (cmpT_step HC.out h0)
        obtain ⟨hl1, hl2⟩ := less_no h0
        go_upto_region 6 with (fail)
        go_quiet (fail)
        go_upto_region 8 with (fail)
        go_quiet (fail)
        go_wp2
        go_roundw
        case rel => exact ⟨4, by omega, rfl, Lib.hid ⟨below_drewN HB.out _, HT.out.p0, HT.out.q0⟩, HC'⟩
        case measure => simp [intOf]
      · obtain rfl : 1 = n := h0.symm.trans (cmpT_stop HC.out (by omega))
        obtain ⟨hl1, hl2⟩ := less_more h0
        go_upto_region 6 with (fail)
        go_quiet (fail)
        go_upto_region 8 with (fail)
        go_quiet (fail)
        go_wp2
        first | exact bodyPost_ret (results_tmp rfl _ _ _) rfl ⟨rfl, below_drewN HB.out _⟩ | exact bodyPost_ret (results_tmp rfl _ _ _) rfl ⟨rfl, below_drewN (below_drewN HB.out _) _⟩
    · obtain rfl : 0 = n := HC.out
      go_wp2
      exact bodyPost_ret (results_tmp rfl _ _ _) rfl ⟨rfl, HB.out⟩
theorem RefCompare_any (a b c d x y z u : ByteArray) (w : World) : Calls Tryd.prog 21 #[.agg #[.string a, .string b, .string c, .string d], .agg #[.string x, .string y, .string z, .string u]] w fun e w' => e = .returned (.int .i64 (cmpT [a.data.toList, b.data.toList, c.data.toList, d.data.toList] [x.data.toList, y.data.toList, z.data.toList, u.data.toList])) ∧ Below w.heap.size w w' :=
  RefCompare_n a b c d x y z u _ (Lib.hid rfl) w
end Go.Proofs.YtldhgdoeehnbjaaDoor
