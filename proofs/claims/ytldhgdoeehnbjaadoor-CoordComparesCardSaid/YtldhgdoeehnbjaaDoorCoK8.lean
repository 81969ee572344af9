/- CoordCompares: the law, walked. -/
import Derived.Test.YtldhgdoeehnbjaaDoorCoK1
import Derived.Test.YtldhgdoeehnbjaaDoorCoW14
import Derived.Test.YtldhgdoeehnbjaaDoorCoA3
namespace Go.Proofs.YtldhgdoeehnbjaaDoor
open Go.RowKit

theorem key_at (a1 b1 c1 d1 a2 b2 c2 d2 a3 b3 c3 d3 : ByteArray) {k : Nat} (hk : k < 3) : ∃ a b c d : ByteArray, ∀ w, (Instr.index 31 (.agg #[.string a1, .string b1, .string c1, .string d1, .string a2, .string b2, .string c2, .string d2, .string a3, .string b3, .string c3, .string d3]) (.int .i64 k)).run Tryd.prog w = .ok (.agg #[.string a, .string b, .string c, .string d]) w := by
  match k, hk with
  | 0, _ => exact ⟨a1, b1, c1, d1, fun _ => by kernel_rfl⟩
  | 1, _ => exact ⟨a2, b2, c2, d2, fun _ => by kernel_rfl⟩
  | 2, _ => exact ⟨a3, b3, c3, d3, fun _ => by kernel_rfl⟩
structure Tri (w1 : World) (p q r : Nat) (a1 b1 c1 d1 a2 b2 c2 d2 a3 b3 c3 d3 : ByteArray) (w' : World) : Prop where
  below : Below w1.heap.size w1 w'
  p0 : w'.heap[p]? = some (.cells #[.string a1, .string b1, .string c1, .string d1] 30)
  q0 : w'.heap[q]? = some (.cells #[.string a2, .string b2, .string c2, .string d2] 30)
  r0 : w'.heap[r]? = some (.cells #[.string a3, .string b3, .string c3, .string d3] 30)
theorem Tri.up {w1 w w' : World} {p q r : Nat} {a1 b1 c1 d1 a2 b2 c2 d2 a3 b3 c3 d3 : ByteArray} (h : Tri w1 p q r a1 b1 c1 d1 a2 b2 c2 d2 a3 b3 c3 d3 w) (hb : Below w.heap.size w w') : Tri w1 p q r a1 b1 c1 d1 a2 b2 c2 d2 a3 b3 c3 d3 w' := by
  have e : ∀ i o, w.heap[i]? = some o → w'.heap[i]? = some o := fun i o hi => (hb.block i (Array.getElem?_eq_some_iff.1 hi).1).trans hi
  exact ⟨h.below.trans (hb.mono h.below.size), e _ _ h.p0, e _ _ h.q0, e _ _ h.r0⟩
theorem Tri.cells {w1 w' : World} {p q r : Nat} {a1 b1 c1 d1 a2 b2 c2 d2 a3 b3 c3 d3 : ByteArray} (h : Tri w1 p q r a1 b1 c1 d1 a2 b2 c2 d2 a3 b3 c3 d3 w') : w'.cell? ⟨p, 0, none⟩ = some (.string a1) ∧ w'.cell? ⟨p, 1, none⟩ = some (.string b1) ∧ w'.cell? ⟨p, 2, none⟩ = some (.string c1) ∧ w'.cell? ⟨p, 3, none⟩ = some (.string d1) ∧ w'.cell? ⟨q, 0, none⟩ = some (.string a2) ∧ w'.cell? ⟨q, 1, none⟩ = some (.string b2) ∧ w'.cell? ⟨q, 2, none⟩ = some (.string c2) ∧ w'.cell? ⟨q, 3, none⟩ = some (.string d2) ∧ w'.cell? ⟨r, 0, none⟩ = some (.string a3) ∧ w'.cell? ⟨r, 1, none⟩ = some (.string b3) ∧ w'.cell? ⟨r, 2, none⟩ = some (.string c3) ∧ w'.cell? ⟨r, 3, none⟩ = some (.string d3) := ⟨cell_of_row _ _ 0 _ _ (0, 0) h.p0, cell_of_row _ _ 1 _ _ (0, 0) h.p0, cell_of_row _ _ 2 _ _ (0, 0) h.p0, cell_of_row _ _ 3 _ _ (0, 0) h.p0, cell_of_row _ _ 0 _ _ (0, 0) h.q0, cell_of_row _ _ 1 _ _ (0, 0) h.q0, cell_of_row _ _ 2 _ _ (0, 0) h.q0, cell_of_row _ _ 3 _ _ (0, 0) h.q0, cell_of_row _ _ 0 _ _ (0, 0) h.r0, cell_of_row _ _ 1 _ _ (0, 0) h.r0, cell_of_row _ _ 2 _ _ (0, 0) h.r0, cell_of_row _ _ 3 _ _ (0, 0) h.r0⟩
theorem eq_cases {a b c d x y z u : ByteArray} {n : Int} (h : cmpT [a.data.toList, b.data.toList, c.data.toList, d.data.toList] [x.data.toList, y.data.toList, z.data.toList, u.data.toList] = n) :
    ((n == 0) = true ∧ (a.toList == x.toList) = true ∧ (b.toList == y.toList) = true ∧ (c.toList == z.toList) = true ∧ (d.toList == u.toList) = true) ∨
    ((n == 0) = false ∧ (a.toList == x.toList) = false) ∨ ((n == 0) = false ∧ (a.toList == x.toList) = true ∧ (b.toList == y.toList) = false) ∨
    ((n == 0) = false ∧ (a.toList == x.toList) = true ∧ (b.toList == y.toList) = true ∧ (c.toList == z.toList) = false) ∨
    ((n == 0) = false ∧ (a.toList == x.toList) = true ∧ (b.toList == y.toList) = true ∧ (c.toList == z.toList) = true ∧ (d.toList == u.toList) = false) := by
  have hz := cmpT_zero (x := [a.data.toList, b.data.toList, c.data.toList, d.data.toList]) (y := [x.data.toList, y.data.toList, z.data.toList, u.data.toList]) rfl
  rw [h] at hz
  simp only [List.cons.injEq, and_true] at hz
  simp only [ByteArray.toList_eq, beq_iff_eq, beq_eq_false_iff_ne, ne_eq]
  by_cases e1 : a.data.toList = x.data.toList <;> by_cases e2 : b.data.toList = y.data.toList <;> by_cases e3 : c.data.toList = z.data.toList <;> by_cases e4 : d.data.toList = u.data.toList <;> simp_all
set_option maxRecDepth 100000 in
set_option maxHeartbeats 4000000 in
theorem cmp_walk (m : Int) (W : World) (hm : MaxAt m W) (a1 b1 c1 d1 a2 b2 c2 d2 a3 b3 c3 d3 : ByteArray) : Calls Tryd.prog 6 #[.agg #[.string a1, .string b1, .string c1, .string d1, .string a2, .string b2, .string c2, .string d2, .string a3, .string b3, .string c3, .string d3]] W fun e W' => e = .returned (.bool true) ∧ Below W.heap.size W W' := by
  have HL := Lib.hid (fun w (hm : MaxAt m w) => lives_any m w hm)
  have HI := Lib.hid (fun (k : Nat) (hk : k < 3) => key_at a1 b1 c1 d1 a2 b2 c2 d2 a3 b3 c3 d3 hk)
  obtain ⟨w1, hw1⟩ : ∃ w1, w1 = W.alloc (.cells #[.string a1, .string b1, .string c1, .string d1, .string a2, .string b2, .string c2, .string d2, .string a3, .string b3, .string c3, .string d3] 31) := ⟨_, rfl⟩
  have HB := Lib.hid (show Below W.heap.size W w1 by rw [hw1]; exact below_alloc W _)
  have HM := Lib.hid (hm.up HB.out)
  have HW1 := Lib.hid hw1
  have hz1 : W.heap.size + 1 = w1.heap.size := by rw [hw1]; simp
  have hx1 : W.heap.size < w1.heap.size := by omega
  have k0 : w1.cell? ⟨W.heap.size, 0, none⟩ = some (.string a1) := by rw [hw1]; exact box_cell (Below.refl _ _) 0
  have k1 : w1.cell? ⟨W.heap.size, 1, none⟩ = some (.string b1) := by rw [hw1]; exact box_cell (Below.refl _ _) 1
  have k2 : w1.cell? ⟨W.heap.size, 2, none⟩ = some (.string c1) := by rw [hw1]; exact box_cell (Below.refl _ _) 2
  have k3 : w1.cell? ⟨W.heap.size, 3, none⟩ = some (.string d1) := by rw [hw1]; exact box_cell (Below.refl _ _) 3
  have k4 : w1.cell? ⟨W.heap.size, 4, none⟩ = some (.string a2) := by rw [hw1]; exact box_cell (Below.refl _ _) 4
  have k5 : w1.cell? ⟨W.heap.size, 5, none⟩ = some (.string b2) := by rw [hw1]; exact box_cell (Below.refl _ _) 5
  have k6 : w1.cell? ⟨W.heap.size, 6, none⟩ = some (.string c2) := by rw [hw1]; exact box_cell (Below.refl _ _) 6
  have k7 : w1.cell? ⟨W.heap.size, 7, none⟩ = some (.string d2) := by rw [hw1]; exact box_cell (Below.refl _ _) 7
  have k8 : w1.cell? ⟨W.heap.size, 8, none⟩ = some (.string a3) := by rw [hw1]; exact box_cell (Below.refl _ _) 8
  have k9 : w1.cell? ⟨W.heap.size, 9, none⟩ = some (.string b3) := by rw [hw1]; exact box_cell (Below.refl _ _) 9
  have k10 : w1.cell? ⟨W.heap.size, 10, none⟩ = some (.string c3) := by rw [hw1]; exact box_cell (Below.refl _ _) 10
  have k11 : w1.cell? ⟨W.heap.size, 11, none⟩ = some (.string d3) := by rw [hw1]; exact box_cell (Below.refl _ _) 11
  clear hw1 hm
  go_enter Tryd.func6, Tryd.ntmps6
  go_upto_region 1 with (fail)
  rw [← HW1.out]
  go_wp2
  go_loopw [10] (fun sv wr => ∃ k : Nat, k ≤ 3 ∧ sv = .int .i64 k ∧ Hid (Below w1.heap.size w1 wr)) (fun sv _ => 3 - (intOf sv).toNat)
  case atStart => exact ⟨0, by omega, rfl, Lib.hid (Below.refl _ _)⟩
  case round =>
    obtain ⟨k, hk, rfl, HR⟩ := hrel
    have HBr := Lib.hid (HB.out.trans (HR.out.mono HB.out.size))
    have HMr := Lib.hid (HM.out.up HR.out)
    by_cases hk3 : k < 3
    · obtain ⟨a, b, c, d, x0⟩ := HI.out k hk3
      have hcases : (a.size ≤ 400 ∧ b.size ≤ 400 ∧ c.size ≤ 400 ∧ d.size ≤ 400) ∨ 400 < a.size ∨ (a.size ≤ 400 ∧ 400 < b.size) ∨ (a.size ≤ 400 ∧ b.size ≤ 400 ∧ 400 < c.size) ∨ (a.size ≤ 400 ∧ b.size ≤ 400 ∧ c.size ≤ 400 ∧ 400 < d.size) := by omega
      rcases hcases with ⟨h1, h2, h3, h4⟩ | h1 | ⟨h1, h2⟩ | ⟨h1, h2, h3⟩ | ⟨h1, h2, h3, h4⟩
      case inl =>
        go_wp2
        go_roundw
        case rel => exact ⟨k + 1, by omega, by go_num, Lib.hid (HR.out.alloc HR.out.size _)⟩
        case measure => simp [intOf]; omega
      all_goals
        go_wp2_with (go_at_call 11; with_reducible refine (HL.out _ (HMr.out.up (below_alloc _ _))).mono ?_; rintro e w4 ⟨rfl, hb⟩; have HB3 := Lib.hid ((HBr.out.alloc HBr.out.size _).trans (hb.mono (by have := HBr.out.size; simp; omega))); clear hb)
        go_ret
        exact ⟨rfl, HB3.out⟩
    · obtain rfl : k = 3 := by omega
      clear HI hk3 hk
      have H12 := Lib.hid (show ∀ w', Below w1.heap.size w1 w' → w'.cell? ⟨W.heap.size, 0, none⟩ = some (.string a1) ∧ w'.cell? ⟨W.heap.size, 1, none⟩ = some (.string b1) ∧ w'.cell? ⟨W.heap.size, 2, none⟩ = some (.string c1) ∧ w'.cell? ⟨W.heap.size, 3, none⟩ = some (.string d1) ∧ w'.cell? ⟨W.heap.size, 4, none⟩ = some (.string a2) ∧ w'.cell? ⟨W.heap.size, 5, none⟩ = some (.string b2) ∧ w'.cell? ⟨W.heap.size, 6, none⟩ = some (.string c2) ∧ w'.cell? ⟨W.heap.size, 7, none⟩ = some (.string d2) ∧ w'.cell? ⟨W.heap.size, 8, none⟩ = some (.string a3) ∧ w'.cell? ⟨W.heap.size, 9, none⟩ = some (.string b3) ∧ w'.cell? ⟨W.heap.size, 10, none⟩ = some (.string c3) ∧ w'.cell? ⟨W.heap.size, 11, none⟩ = some (.string d3) from fun w' h => ⟨(h.cell (p := ⟨W.heap.size, 0, none⟩) hx1).trans k0, (h.cell (p := ⟨W.heap.size, 1, none⟩) hx1).trans k1, (h.cell (p := ⟨W.heap.size, 2, none⟩) hx1).trans k2, (h.cell (p := ⟨W.heap.size, 3, none⟩) hx1).trans k3, (h.cell (p := ⟨W.heap.size, 4, none⟩) hx1).trans k4, (h.cell (p := ⟨W.heap.size, 5, none⟩) hx1).trans k5, (h.cell (p := ⟨W.heap.size, 6, none⟩) hx1).trans k6, (h.cell (p := ⟨W.heap.size, 7, none⟩) hx1).trans k7, (h.cell (p := ⟨W.heap.size, 8, none⟩) hx1).trans k8, (h.cell (p := ⟨W.heap.size, 9, none⟩) hx1).trans k9, (h.cell (p := ⟨W.heap.size, 10, none⟩) hx1).trans k10, (h.cell (p := ⟨W.heap.size, 11, none⟩) hx1).trans k11⟩)
      clear k0 k1 k2 k3 k4 k5 k6 k7 k8 k9 k10 k11
      obtain ⟨k0, k1, k2, k3, k4, k5, k6, k7, k8, k9, k10, k11⟩ := H12.out _ HR.out
      have hsz := HR.out.size
      go_upto_region 7 with (fail)
      go_cut [5, 6, 7] (fun v5 v6 v7 wx => ∃ p q r, v5 = .pointer (some ⟨p, 0, none⟩) ∧ v6 = .pointer (some ⟨q, 0, none⟩) ∧ v7 = .pointer (some ⟨r, 0, none⟩) ∧ Hid (Tri w1 p q r a1 b1 c1 d1 a2 b2 c2 d2 a3 b3 c3 d3 wx))
      case first =>
        go_region_held3 (fun w' => w'.cell? ⟨W.heap.size, 0, none⟩ = some (.string a1) ∧ w'.cell? ⟨W.heap.size, 1, none⟩ = some (.string b1) ∧ w'.cell? ⟨W.heap.size, 2, none⟩ = some (.string c1) ∧ w'.cell? ⟨W.heap.size, 3, none⟩ = some (.string d1) ∧ w'.cell? ⟨W.heap.size, 4, none⟩ = some (.string a2) ∧ w'.cell? ⟨W.heap.size, 5, none⟩ = some (.string b2) ∧ w'.cell? ⟨W.heap.size, 6, none⟩ = some (.string c2) ∧ w'.cell? ⟨W.heap.size, 7, none⟩ = some (.string d2) ∧ w'.cell? ⟨W.heap.size, 8, none⟩ = some (.string a3) ∧ w'.cell? ⟨W.heap.size, 9, none⟩ = some (.string b3) ∧ w'.cell? ⟨W.heap.size, 10, none⟩ = some (.string c3) ∧ w'.cell? ⟨W.heap.size, 11, none⟩ = some (.string d3))
          (first
            | (with_reducible refine H12.out _ ?_; (repeat (first | with_reducible exact HR.out | with_reducible refine Below.drew ?_ | with_reducible refine Below.alloc ?_ (by first | omega | (simp; done) | (simp; omega)) _)); done)
            | go_keep)
          (fail)
        all_goals go_wp2
        all_goals go_meet
        all_goals
          refine ⟨_, _, _, rfl, rfl, rfl, Lib.hid ⟨?_, ?_, ?_, ?_⟩⟩
          · repeat (first | exact HR.out | refine Below.drew ?_ | refine Below.alloc ?_ (by first | omega | (simp; done) | (simp; omega)) _)
          · show (World.alloc _ _).heap[_]? = _
            repeat (first | (refine heap_new ?_; simp; done) | refine heap_at_alloc ?_)
          · show (World.alloc _ _).heap[_]? = _
            repeat (first | (refine heap_new ?_; simp; done) | refine heap_at_alloc ?_)
          · show (World.alloc _ _).heap[_]? = _
            repeat (first | (refine heap_new ?_; simp; done) | refine heap_at_alloc ?_)
      case rest =>
        obtain ⟨w4, rfl⟩ : ∃ w0 : World, w0 = wc := ⟨_, rfl⟩
        obtain ⟨p, q, r, rfl, rfl, rfl, HT⟩ := hcut
        clear H12 k0 k1 k2 k3 k4 k5 k6 k7 k8 k9 k10 k11 hsz HR HBr HMr
        obtain ⟨n12, hn12⟩ : ∃ n, cmpT [a1.data.toList, b1.data.toList, c1.data.toList, d1.data.toList] [a2.data.toList, b2.data.toList, c2.data.toList, d2.data.toList] = n := ⟨_, rfl⟩
        obtain ⟨n23, hn23⟩ : ∃ n, cmpT [a2.data.toList, b2.data.toList, c2.data.toList, d2.data.toList] [a3.data.toList, b3.data.toList, c3.data.toList, d3.data.toList] = n := ⟨_, rfl⟩
        obtain ⟨n13, hn13⟩ : ∃ n, cmpT [a1.data.toList, b1.data.toList, c1.data.toList, d1.data.toList] [a3.data.toList, b3.data.toList, c3.data.toList, d3.data.toList] = n := ⟨_, rfl⟩
        have C12 := Lib.hid (Compare_n a1 b1 c1 d1 a2 b2 c2 d2 n12 (Lib.hid hn12))
        have C23 := Lib.hid (Compare_n a2 b2 c2 d2 a3 b3 c3 d3 n23 (Lib.hid hn23))
        have C13 := Lib.hid (Compare_n a1 b1 c1 d1 a3 b3 c3 d3 n13 (Lib.hid hn13))
        have C21 := Lib.hid (Compare_n a2 b2 c2 d2 a1 b1 c1 d1 (-n12) (Lib.hid (by rw [cmpT_neg, hn12])))
        have R12 := Lib.hid (RefCompare_n a1 b1 c1 d1 a2 b2 c2 d2 n12 (Lib.hid hn12))
        have hcs := eq_cases hn12
        have r12 : n12 = -1 ∨ n12 = 0 ∨ n12 = 1 := hn12 ▸ cmpT_range _ _
        have htr : n12 ≤ 0 → n23 ≤ 0 → n13 ≤ 0 := fun h1 h2 => hn13 ▸ cmpT_trans (y := [a2.data.toList, b2.data.toList, c2.data.toList, d2.data.toList]) rfl rfl (hn12 ▸ h1) (hn23 ▸ h2)
        have hw : IntKind.i64.wrap (-n12) = -n12 := by rw [IntKind.wrap_i64]; omega
        clear hn12 hn23 hn13
        obtain ⟨k0, k1, k2, k3, k4, k5, k6, k7, k8, k9, k10, k11⟩ := HT.out.cells
        go_upto_region 9 with (go_at_call 20; (first | with_reducible refine (C12.out _).mono ?_ | with_reducible refine (C21.out _).mono ?_ | with_reducible refine (C23.out _).mono ?_ | with_reducible refine (C13.out _).mono ?_); rintro e wn ⟨rfl, hb⟩; have HT := Lib.hid (HT.out.up hb); clear hb; obtain ⟨k0, k1, k2, k3, k4, k5, k6, k7, k8, k9, k10, k11⟩ := HT.out.cells)
        go_cut [8, 66] (fun v8 v66 wx => v8 = .int .i64 n12 ∧ v66 = .bool false ∧ Hid (Tri w1 p q r a1 b1 c1 d1 a2 b2 c2 d2 a3 b3 c3 d3 wx))
        case first =>
          rcases hcs with ⟨h0, h1, h2, h3, h4⟩ | ⟨h0, h1⟩ | ⟨h0, h1, h2⟩ | ⟨h0, h1, h2, h3⟩ | ⟨h0, h1, h2, h3, h4⟩
          all_goals
            go_wp2_with (first | (go_at_call 20; (first | with_reducible refine (C12.out _).mono ?_ | with_reducible refine (C21.out _).mono ?_ | with_reducible refine (C23.out _).mono ?_ | with_reducible refine (C13.out _).mono ?_); rintro e wn ⟨rfl, hb⟩; have HT := Lib.hid (HT.out.up hb); clear hb; obtain ⟨k0, k1, k2, k3, k4, k5, k6, k7, k8, k9, k10, k11⟩ := HT.out.cells) | (go_at_call 21; with_reducible refine (R12.out _).mono ?_; rintro e wn ⟨rfl, hb⟩; have HT := Lib.hid (HT.out.up hb); clear hb; obtain ⟨k0, k1, k2, k3, k4, k5, k6, k7, k8, k9, k10, k11⟩ := HT.out.cells))
            go_meet
            exact ⟨rfl, rfl, HT⟩
        case rest =>
          obtain ⟨w5, rfl⟩ : ∃ w0 : World, w0 = wc := ⟨_, rfl⟩
          obtain ⟨rfl, rfl, HT⟩ := hcut
          obtain ⟨k0, k1, k2, k3, k4, k5, k6, k7, k8, k9, k10, k11⟩ := HT.out.cells
          by_cases g1 : n12 ≤ 0
          · by_cases g2 : n23 ≤ 0
            · have g3 := htr g1 g2
              go_wp2_with (first | (go_at_call 20; (first | with_reducible refine (C12.out _).mono ?_ | with_reducible refine (C21.out _).mono ?_ | with_reducible refine (C23.out _).mono ?_ | with_reducible refine (C13.out _).mono ?_); rintro e wn ⟨rfl, hb⟩; have HT := Lib.hid (HT.out.up hb); clear hb; obtain ⟨k0, k1, k2, k3, k4, k5, k6, k7, k8, k9, k10, k11⟩ := HT.out.cells) | (go_at_call 11; with_reducible refine (HL.out _ (HM.out.up HT.out.below)).mono ?_; rintro e wn ⟨rfl, hb⟩; have HT := Lib.hid (HT.out.up hb); clear hb))
              go_ret
              exact ⟨rfl, HB.out.trans (HT.out.below.mono HB.out.size)⟩
            · have g2' : 0 < n23 := by omega
              go_wp2_with (first | (go_at_call 20; (first | with_reducible refine (C12.out _).mono ?_ | with_reducible refine (C21.out _).mono ?_ | with_reducible refine (C23.out _).mono ?_ | with_reducible refine (C13.out _).mono ?_); rintro e wn ⟨rfl, hb⟩; have HT := Lib.hid (HT.out.up hb); clear hb; obtain ⟨k0, k1, k2, k3, k4, k5, k6, k7, k8, k9, k10, k11⟩ := HT.out.cells) | (go_at_call 11; with_reducible refine (HL.out _ (HM.out.up HT.out.below)).mono ?_; rintro e wn ⟨rfl, hb⟩; have HT := Lib.hid (HT.out.up hb); clear hb))
              go_ret
              exact ⟨rfl, HB.out.trans (HT.out.below.mono HB.out.size)⟩
          · have g1' : 0 < n12 := by omega
            go_wp2_with (first | (go_at_call 20; (first | with_reducible refine (C12.out _).mono ?_ | with_reducible refine (C21.out _).mono ?_ | with_reducible refine (C23.out _).mono ?_ | with_reducible refine (C13.out _).mono ?_); rintro e wn ⟨rfl, hb⟩; have HT := Lib.hid (HT.out.up hb); clear hb; obtain ⟨k0, k1, k2, k3, k4, k5, k6, k7, k8, k9, k10, k11⟩ := HT.out.cells) | (go_at_call 11; with_reducible refine (HL.out _ (HM.out.up HT.out.below)).mono ?_; rintro e wn ⟨rfl, hb⟩; have HT := Lib.hid (HT.out.up hb); clear hb))
            go_ret
            exact ⟨rfl, HB.out.trans (HT.out.below.mono HB.out.size)⟩
theorem walk_CoordCompares (m : Int) (W : World) (hm : MaxAt m W) (v0 : Value) (a0 : Arg Tryd.prog W 31 v0) : Calls Tryd.prog 6 #[v0] W fun e W' => e = .returned (.bool true) ∧ Below W.heap.size W W' := by
  obtain ⟨a1, b1, c1, d1, a2, b2, c2, d2, a3, b3, c3, d3, rfl⟩ := arg_keys a0
  exact cmp_walk m W hm a1 b1 c1 d1 a2 b2 c2 d2 a3 b3 c3 d3
end Go.Proofs.YtldhgdoeehnbjaaDoor
