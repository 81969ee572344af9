/- coord.fields, Compare, and the reference of Compare. -/
import Derived.Test.YtldhgdoeehnbjaaDoorCoD4
import Derived.Test.YtldhgdoeehnbjaaDoorCoW4
import Derived.Test.YtldhgdoeehnbjaaDoorCoW7
import Derived.Deep.RegionHeld3
namespace Go.Proofs.YtldhgdoeehnbjaaDoor
open Go.RowKit

theorem fields_any (a b c d : ByteArray) (w : World) : Calls Tryd.prog 40 #[.agg #[.string a, .string b, .string c, .string d]] w fun e w' => e = .returned (.agg #[.string a, .string b, .string c, .string d]) ∧ Below w.heap.size w w' := by
  go_enter Tryd.func40, Tryd.ntmps40
  go_wp2
  exact bodyPost_ret (results_cell_row rfl _ _ (w.heap.size + 1) _ _ (0, 0) _ rfl (heap_alloc2_new w _ _) Tryd.underlying59 rfl (by kernel_rfl)) rfl ⟨rfl, (below_alloc w _).alloc (by simp) _⟩
theorem fields_ex (a b c d : ByteArray) (w : World) : Calls Tryd.prog 40 #[.agg #[.string a, .string b, .string c, .string d]] w fun e w' => e = .returned (.agg #[.string a, .string b, .string c, .string d]) ∧ w' = (w.alloc (.cells #[.string a, .string b, .string c, .string d] 30)).alloc (.cells #[.string a, .string b, .string c, .string d] 59) := by
  go_enter Tryd.func40, Tryd.ntmps40
  go_wp2
  exact bodyPost_ret (results_cell_row rfl _ _ (w.heap.size + 1) _ _ (0, 0) _ rfl (heap_alloc2_new w _ _) Tryd.underlying59 rfl (by kernel_rfl)) rfl ⟨rfl, rfl⟩
theorem StrCmp_any (a b : ByteArray) (w : World) : Calls Tryd.prog 41 #[.string a, .string b] w fun e w' => e = .returned (.int .i64 (cb a.data.toList b.data.toList)) ∧ w' = w := Any.strings_Compare layCm a b w
structure CmpAt (w : World) (a b c d x y z u : ByteArray) (w' : World) : Prop where
  below : Below w.heap.size w w'
  lt : w.heap.size + 1 < w'.heap.size
  k0 : w'.cell? ⟨w.heap.size, 0, none⟩ = some (.string a)
  k1 : w'.cell? ⟨w.heap.size, 1, none⟩ = some (.string b)
  k2 : w'.cell? ⟨w.heap.size, 2, none⟩ = some (.string c)
  k3 : w'.cell? ⟨w.heap.size, 3, none⟩ = some (.string d)
  k4 : w'.cell? ⟨w.heap.size + 1, 0, none⟩ = some (.string x)
  k5 : w'.cell? ⟨w.heap.size + 1, 1, none⟩ = some (.string y)
  k6 : w'.cell? ⟨w.heap.size + 1, 2, none⟩ = some (.string z)
  k7 : w'.cell? ⟨w.heap.size + 1, 3, none⟩ = some (.string u)
section
variable {w w1 w2 : World} {a b c d x y z u : ByteArray}
theorem CmpAt.up (h : CmpAt w a b c d x y z u w1) (hb : Below w1.heap.size w1 w2) : CmpAt w a b c d x y z u w2 := by
  have hl := h.lt
  have e0 := fun j => hb.cell (p := ⟨w.heap.size, j, none⟩) (by show w.heap.size < _; omega)
  have e1 := fun j => hb.cell (p := ⟨w.heap.size + 1, j, none⟩) (by show w.heap.size + 1 < _; omega)
  exact ⟨h.below.trans (hb.mono h.below.size), Nat.lt_of_lt_of_le h.lt hb.size, (e0 0).trans h.k0, (e0 1).trans h.k1, (e0 2).trans h.k2, (e0 3).trans h.k3, (e1 0).trans h.k4, (e1 1).trans h.k5, (e1 2).trans h.k6, (e1 3).trans h.k7⟩
theorem CmpAt.alloc (h : CmpAt w a b c d x y z u w1) (o : Obj) : CmpAt w a b c d x y z u (w1.alloc o) := h.up (below_alloc w1 o)
theorem CmpAt.drew (h : CmpAt w a b c d x y z u w1) : CmpAt w a b c d x y z u w1.drew := h.up (Below.refl _ _).drew
theorem CmpAt.set (h : CmpAt w a b c d x y z u w1) {g : Nat} (hg : w.heap.size + 1 < g) (j : Nat) (v : Value) : CmpAt w a b c d x y z u (w1.setCell ⟨g, j, none⟩ v) := by
  have e : ∀ b i, b ≤ w.heap.size + 1 → (w1.setCell ⟨g, j, none⟩ v).cell? ⟨b, i, none⟩ = w1.cell? ⟨b, i, none⟩ := fun b i hb => World.cell?_of_block (w := w1) (Below.heap_setCell w1 ⟨g, j, none⟩ v b (by show b ≠ g; omega))
  exact ⟨h.below.setCell (p := ⟨g, j, none⟩) (by show w.heap.size ≤ g; omega) v, by simpa using h.lt, (e _ _ (by omega)).trans h.k0, (e _ _ (by omega)).trans h.k1, (e _ _ (by omega)).trans h.k2, (e _ _ (by omega)).trans h.k3, (e _ _ (Nat.le_refl _)).trans h.k4, (e _ _ (Nat.le_refl _)).trans h.k5, (e _ _ (Nat.le_refl _)).trans h.k6, (e _ _ (Nat.le_refl _)).trans h.k7⟩
theorem CmpAt.set4 (h : CmpAt w a b c d x y z u w1) {g : Nat} (hg : w.heap.size + 1 < g) (v0 v1 v2 v3 : Value) : CmpAt w a b c d x y z u ((((w1.setCell ⟨g, 0, none⟩ v0).setCell ⟨g, 1, none⟩ v1).setCell ⟨g, 2, none⟩ v2).setCell ⟨g, 3, none⟩ v3) :=
  (((h.set hg 0 v0).set hg 1 v1).set hg 2 v2).set hg 3 v3
theorem CmpAt.cells (h : CmpAt w a b c d x y z u w1) : w1.cell? ⟨w.heap.size, 0, none⟩ = some (.string a) ∧ w1.cell? ⟨w.heap.size, 1, none⟩ = some (.string b) ∧ w1.cell? ⟨w.heap.size, 2, none⟩ = some (.string c) ∧ w1.cell? ⟨w.heap.size, 3, none⟩ = some (.string d) ∧
    w1.cell? ⟨w.heap.size + 1, 0, none⟩ = some (.string x) ∧ w1.cell? ⟨w.heap.size + 1, 1, none⟩ = some (.string y) ∧ w1.cell? ⟨w.heap.size + 1, 2, none⟩ = some (.string z) ∧ w1.cell? ⟨w.heap.size + 1, 3, none⟩ = some (.string u) := ⟨h.k0, h.k1, h.k2, h.k3, h.k4, h.k5, h.k6, h.k7⟩
end
theorem quiet_l0 {P : Program} {f : FuncId} {args : Array Value} {w : World} {n : Nat} {v : Value}
    (h : Calls P f args (w.drewN n) fun e w' => e = .returned v ∧ w' = w.drewN n) : Calls P f args (w.drewN n) fun e w'' => e = .returned v ∧ ∃ m, w'' = w.drewN m :=
  h.mono fun _ _ ⟨he, hm⟩ => ⟨he, n, hm⟩
theorem quiet_a0 {P : Program} {f : FuncId} {args : Array Value} {w : World} {a n : Nat} {v : Value}
    (h : Calls P f args (w.drewN (a + n)) fun e w' => e = .returned v ∧ w' = w.drewN (a + n)) :
    Calls P f args (w.drewN (a + n)) fun e w'' => e = .returned v ∧ ∃ m, w'' = w.drewN (a + m) :=
  h.mono fun _ _ ⟨he, hm⟩ => ⟨he, n, hm⟩
structure Two (w : World) (p q : Nat) (a b c d x y z u : ByteArray) (w' : World) : Prop where
  below : Below w.heap.size w w'
  p0 : w'.heap[p]? = some (.cells #[.string a, .string b, .string c, .string d] 59)
  q0 : w'.heap[q]? = some (.cells #[.string x, .string y, .string z, .string u] 59)
theorem Two.cells {w w' : World} {p q : Nat} {a b c d x y z u : ByteArray} (h : Two w p q a b c d x y z u w') : (w'.cell? ⟨p, 0, none⟩ = some (.string a) ∧ w'.cell? ⟨p, 1, none⟩ = some (.string b) ∧ w'.cell? ⟨p, 2, none⟩ = some (.string c) ∧ w'.cell? ⟨p, 3, none⟩ = some (.string d)) ∧
    w'.cell? ⟨q, 0, none⟩ = some (.string x) ∧ w'.cell? ⟨q, 1, none⟩ = some (.string y) ∧ w'.cell? ⟨q, 2, none⟩ = some (.string z) ∧ w'.cell? ⟨q, 3, none⟩ = some (.string u) :=
  ⟨⟨cell_of_row _ _ 0 _ _ (0, 0) h.p0, cell_of_row _ _ 1 _ _ (0, 0) h.p0, cell_of_row _ _ 2 _ _ (0, 0) h.p0, cell_of_row _ _ 3 _ _ (0, 0) h.p0⟩, cell_of_row _ _ 0 _ _ (0, 0) h.q0, cell_of_row _ _ 1 _ _ (0, 0) h.q0, cell_of_row _ _ 2 _ _ (0, 0) h.q0, cell_of_row _ _ 3 _ _ (0, 0) h.q0⟩
theorem cmpT_step {a x : List UInt8} {l m : List (List UInt8)} {n : Int} (h : cmpT (a :: l) (x :: m) = n) (h0 : cb a x = 0) : cmpT l m = n := by rw [← h, cmpT, if_pos h0]
theorem cmpT_stop {a x : List UInt8} {l m : List (List UInt8)} {n : Int} (h : cmpT (a :: l) (x :: m) = n) (h0 : cb a x ≠ 0) : cb a x = n := by rw [← h, cmpT, if_neg h0]
set_option maxHeartbeats 4000000 in
theorem Compare_n (a b c d x y z u : ByteArray) (n : Int) (HN : Hid (cmpT [a.data.toList, b.data.toList, c.data.toList, d.data.toList] [x.data.toList, y.data.toList, z.data.toList, u.data.toList] = n)) (w : World) : Calls Tryd.prog 20 #[.agg #[.string a, .string b, .string c, .string d], .agg #[.string x, .string y, .string z, .string u]] w fun e w' => e = .returned (.int .i64 n) ∧ Below w.heap.size w w' := by
  have HF := Lib.hid (fun w => fields_ex a b c d w)
  have HG := Lib.hid (fun w => fields_ex x y z u w)
  go_enter Tryd.func20, Tryd.ntmps20
  go_upto_region 1 with (fail)
  generalize hw0 : (World.alloc _ _) = w0
  have k0 : w0.cell? ⟨w.heap.size, 0, none⟩ = some (.string a) := by rw [← hw0]; exact box_a (Below.refl _ _) 0
  have k1 : w0.cell? ⟨w.heap.size, 1, none⟩ = some (.string b) := by rw [← hw0]; exact box_a (Below.refl _ _) 1
  have k2 : w0.cell? ⟨w.heap.size, 2, none⟩ = some (.string c) := by rw [← hw0]; exact box_a (Below.refl _ _) 2
  have k3 : w0.cell? ⟨w.heap.size, 3, none⟩ = some (.string d) := by rw [← hw0]; exact box_a (Below.refl _ _) 3
  have k4 : w0.cell? ⟨w.heap.size + 1, 0, none⟩ = some (.string x) := by rw [← hw0]; exact box_b (Below.refl _ _) 0
  have k5 : w0.cell? ⟨w.heap.size + 1, 1, none⟩ = some (.string y) := by rw [← hw0]; exact box_b (Below.refl _ _) 1
  have k6 : w0.cell? ⟨w.heap.size + 1, 2, none⟩ = some (.string z) := by rw [← hw0]; exact box_b (Below.refl _ _) 2
  have k7 : w0.cell? ⟨w.heap.size + 1, 3, none⟩ = some (.string u) := by rw [← hw0]; exact box_b (Below.refl _ _) 3
  have hz0 : w.heap.size + 1 < w0.heap.size := by rw [← hw0]; simp
  have hx0 : w.heap.size < w0.heap.size := by omega
  have HB := Lib.hid (show Below w.heap.size w w0 by rw [← hw0]; exact (below_alloc w _).alloc (by simp) _)
  clear hw0
  have HK := Lib.hid (show CmpAt w a b c d x y z u w0 from ⟨HB.out, hz0, k0, k1, k2, k3, k4, k5, k6, k7⟩)
  go_cut [5, 6] (fun v5 v6 wx => ∃ p q, v5 = .pointer (some ⟨p, 0, none⟩) ∧ v6 = .pointer (some ⟨q, 0, none⟩) ∧ Hid (Two w p q a b c d x y z u wx))
  case first =>
    go_region_held3 (fun w' => w'.cell? ⟨w.heap.size, 0, none⟩ = some (.string a) ∧ w'.cell? ⟨w.heap.size, 1, none⟩ = some (.string b) ∧ w'.cell? ⟨w.heap.size, 2, none⟩ = some (.string c) ∧ w'.cell? ⟨w.heap.size, 3, none⟩ = some (.string d) ∧
        w'.cell? ⟨w.heap.size + 1, 0, none⟩ = some (.string x) ∧ w'.cell? ⟨w.heap.size + 1, 1, none⟩ = some (.string y) ∧ w'.cell? ⟨w.heap.size + 1, 2, none⟩ = some (.string z) ∧ w'.cell? ⟨w.heap.size + 1, 3, none⟩ = some (.string u))
      (first
        | with_reducible exact HK.out.cells
        | (with_reducible refine CmpAt.cells (w := w) ?_; (repeat (first | with_reducible exact HK.out | with_reducible refine CmpAt.drew ?_ | with_reducible refine CmpAt.alloc ?_ _ | with_reducible refine CmpAt.set ?_ (by simp only [World.size_alloc, World.heap_drew] <;> omega) _ _)); done)
        | go_keep)
      (first
        | (go_at_call 40; (with_reducible refine (HF.out _).mono ?_); rintro e w1 ⟨rfl, rfl⟩)
        | (go_at_call 40; (with_reducible refine (HG.out _).mono ?_); rintro e w2 ⟨rfl, rfl⟩))
    all_goals go_wp2
    all_goals go_meet
    all_goals
      refine ⟨_, _, rfl, rfl, Lib.hid ⟨?_, ?_, ?_⟩⟩
      · repeat (first | exact HB.out | refine Below.drew ?_ | refine Below.alloc ?_ (by first | omega | (simp; omega)) _)
      · show (World.alloc _ _).heap[_]? = _
        repeat (first | (refine heap_new ?_; simp; done) | refine heap_at_alloc ?_)
      · show (World.alloc _ _).heap[_]? = _
        repeat (first | (refine heap_new ?_; simp; done) | refine heap_at_alloc ?_)
  case rest =>
    obtain ⟨w4, rfl⟩ : ∃ w0 : World, w0 = wc := ⟨_, rfl⟩
    obtain ⟨p, q, rfl, rfl, HT⟩ := hcut
    clear HK HB hx0 hz0 k0 k1 k2 k3 k4 k5 k6 k7 HF HG
    go_wp2
    go_loopw [13] (fun sv wr => ∃ k : Nat, k ≤ 4 ∧ sv = .int .i64 k ∧ Hid (Two w p q a b c d x y z u wr) ∧ Hid (cmpT (([a.data.toList, b.data.toList, c.data.toList, d.data.toList]).drop k) (([x.data.toList, y.data.toList, z.data.toList, u.data.toList]).drop k) = n)) (fun sv _ => 4 - (intOf sv).toNat)
    case atStart => exact ⟨0, by omega, rfl, HT, HN⟩
    case round =>
      obtain ⟨k, hk, rfl, HT, HC⟩ := hrel
      obtain ⟨⟨c0, c1, c2, c3⟩, d0, d1, d2, d3⟩ := HT.out.cells
      have HB := Lib.hid HT.out.below
      rcases (by omega : k = 0 ∨ k = 1 ∨ k = 2 ∨ k = 3 ∨ k = 4) with rfl | rfl | rfl | rfl | rfl
      · have HS := Lib.hid (StrCmp_any a x)
        rcases cb_range a.data.toList x.data.toList with h0 | h0 | h0
        · obtain rfl : -1 = n := h0.symm.trans (cmpT_stop HC.out (by omega))
          rw [h0] at HS
          go_upto_region 5 with (fail)
          go_quiet ((go_at_call 41; first | exact quiet_a0 (HS.out _) | exact quiet_l0 (HS.out _)))
          go_wp2
          exact bodyPost_ret (results_tmp rfl _ _ _) rfl ⟨rfl, below_drewN HB.out _⟩
        · have HC' := Lib.hid (cmpT_step HC.out h0)
          rw [h0] at HS
          go_upto_region 5 with (fail)
          go_quiet ((go_at_call 41; first | exact quiet_a0 (HS.out _) | exact quiet_l0 (HS.out _)))
          go_wp2
          go_roundw
          case rel => exact ⟨1, by omega, rfl, Lib.hid ⟨below_drewN HB.out _, HT.out.p0, HT.out.q0⟩, HC'⟩
          case measure => simp [intOf]
        · obtain rfl : 1 = n := h0.symm.trans (cmpT_stop HC.out (by omega))
          rw [h0] at HS
          go_upto_region 5 with (fail)
          go_quiet ((go_at_call 41; first | exact quiet_a0 (HS.out _) | exact quiet_l0 (HS.out _)))
          go_wp2
          exact bodyPost_ret (results_tmp rfl _ _ _) rfl ⟨rfl, below_drewN HB.out _⟩
      · have HS := Lib.hid (StrCmp_any b y)
        rcases cb_range b.data.toList y.data.toList with h0 | h0 | h0
        · obtain rfl : -1 = n := h0.symm.trans (cmpT_stop HC.out (by omega))
          rw [h0] at HS
          go_upto_region 5 with (fail)
          go_quiet ((go_at_call 41; first | exact quiet_a0 (HS.out _) | exact quiet_l0 (HS.out _)))
          go_wp2
          exact bodyPost_ret (results_tmp rfl _ _ _) rfl ⟨rfl, below_drewN HB.out _⟩
        · have HC' := Lib.hid (cmpT_step HC.out h0)
          rw [h0] at HS
          go_upto_region 5 with (fail)
          go_quiet ((go_at_call 41; first | exact quiet_a0 (HS.out _) | exact quiet_l0 (HS.out _)))
          go_wp2
          go_roundw
          case rel => exact ⟨2, by omega, rfl, Lib.hid ⟨below_drewN HB.out _, HT.out.p0, HT.out.q0⟩, HC'⟩
          case measure => simp [intOf]
        · obtain rfl : 1 = n := h0.symm.trans (cmpT_stop HC.out (by omega))
          rw [h0] at HS
          go_upto_region 5 with (fail)
          go_quiet ((go_at_call 41; first | exact quiet_a0 (HS.out _) | exact quiet_l0 (HS.out _)))
          go_wp2
          exact bodyPost_ret (results_tmp rfl _ _ _) rfl ⟨rfl, below_drewN HB.out _⟩
      · have HS := Lib.hid (StrCmp_any c z)
        rcases cb_range c.data.toList z.data.toList with h0 | h0 | h0
        · obtain rfl : -1 = n := h0.symm.trans (cmpT_stop HC.out (by omega))
          rw [h0] at HS
          go_upto_region 5 with (fail)
          go_quiet ((go_at_call 41; first | exact quiet_a0 (HS.out _) | exact quiet_l0 (HS.out _)))
          go_wp2
          exact bodyPost_ret (results_tmp rfl _ _ _) rfl ⟨rfl, below_drewN HB.out _⟩
        · have HC' := Lib.hid (cmpT_step HC.out h0)
          rw [h0] at HS
          go_upto_region 5 with (fail)
          go_quiet ((go_at_call 41; first | exact quiet_a0 (HS.out _) | exact quiet_l0 (HS.out _)))
          go_wp2
          go_roundw
          case rel => exact ⟨3, by omega, rfl, Lib.hid ⟨below_drewN HB.out _, HT.out.p0, HT.out.q0⟩, HC'⟩
          case measure => simp [intOf]
        · obtain rfl : 1 = n := h0.symm.trans (cmpT_stop HC.out (by omega))
          rw [h0] at HS
          go_upto_region 5 with (fail)
          go_quiet ((go_at_call 41; first | exact quiet_a0 (HS.out _) | exact quiet_l0 (HS.out _)))
          go_wp2
          exact bodyPost_ret (results_tmp rfl _ _ _) rfl ⟨rfl, below_drewN HB.out _⟩
      · have HS := Lib.hid (StrCmp_any d u)
        rcases cb_range d.data.toList u.data.toList with h0 | h0 | h0
        · obtain rfl : -1 = n := h0.symm.trans (cmpT_stop HC.out (by omega))
          rw [h0] at HS
          go_upto_region 5 with (fail)
          go_quiet ((go_at_call 41; first | exact quiet_a0 (HS.out _) | exact quiet_l0 (HS.out _)))
          go_wp2
          exact bodyPost_ret (results_tmp rfl _ _ _) rfl ⟨rfl, below_drewN HB.out _⟩
        · have HC' := Lib.hid (cmpT_step HC.out h0)
          rw [h0] at HS
          go_upto_region 5 with (fail)
          go_quiet ((go_at_call 41; first | exact quiet_a0 (HS.out _) | exact quiet_l0 (HS.out _)))
          go_wp2
          go_roundw
          case rel => exact ⟨4, by omega, rfl, Lib.hid ⟨below_drewN HB.out _, HT.out.p0, HT.out.q0⟩, HC'⟩
          case measure => simp [intOf]
        · obtain rfl : 1 = n := h0.symm.trans (cmpT_stop HC.out (by omega))
          rw [h0] at HS
          go_upto_region 5 with (fail)
          go_quiet ((go_at_call 41; first | exact quiet_a0 (HS.out _) | exact quiet_l0 (HS.out _)))
          go_wp2
          exact bodyPost_ret (results_tmp rfl _ _ _) rfl ⟨rfl, below_drewN HB.out _⟩
      · obtain rfl : 0 = n := HC.out
        go_wp2
        exact bodyPost_ret (results_tmp rfl _ _ _) rfl ⟨rfl, HB.out⟩
theorem Compare_any (a b c d x y z u : ByteArray) (w : World) : Calls Tryd.prog 20 #[.agg #[.string a, .string b, .string c, .string d], .agg #[.string x, .string y, .string z, .string u]] w fun e w' => e = .returned (.int .i64 (cmpT [a.data.toList, b.data.toList, c.data.toList, d.data.toList] [x.data.toList, y.data.toList, z.data.toList, u.data.toList])) ∧ Below w.heap.size w w':=
  Compare_n a b c d x y z u _ (Lib.hid rfl) w
end Go.Proofs.YtldhgdoeehnbjaaDoor
