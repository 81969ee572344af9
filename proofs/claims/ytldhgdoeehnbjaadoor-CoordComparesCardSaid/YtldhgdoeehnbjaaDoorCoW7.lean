/- the references of Derive, Wider, Visible. -/
import Derived.Test.YtldhgdoeehnbjaaDoorCoW6
namespace Go.Proofs.YtldhgdoeehnbjaaDoor
open Go.RowKit

theorem derive_out (o i : Int) (h : o < 0 ∨ 6 < o ∨ i < 0 ∨ 6 < i) : deriveI o i = 0 := by
  unfold deriveI
  repeat' split
  all_goals omega
/-- new blocks, one behind the other -/
def allocs (w : World) : List Obj → World
  | [] => w
  | o :: os => allocs (w.alloc o) os
theorem allocs_heap : ∀ (os : List Obj) (w : World), (allocs w os).heap = w.heap ++ os.toArray
  | [], w => by simp [allocs]
  | o :: os, w => by
    rw [allocs, allocs_heap os]
    show w.heap.push o ++ os.toArray = _
    simp
theorem allocs_at (w : World) (os : List Obj) (i : Nat) : (allocs w os).heap[w.heap.size + i]? = os[i]? := by
  rw [allocs_heap, Array.getElem?_append_right (by omega)]
  simp
theorem allocs_below : ∀ (os : List Obj) (w v : World), Below w.heap.size w v → Below w.heap.size w (allocs v os)
  | [], _, _, h => h
  | o :: os, w, v, h => allocs_below os w (v.alloc o) (h.alloc h.size o)
def derT : List (List Int) := [[0, 0, 0, 0, 0, 0, 0], [0, 1, 2, 0, 0, 0, 0], [0, 2, 2, 0, 0, 0, 0], [0, 3, 3, 0, 0, 0, 0], [0, 0, 0, 0, 0, 0, 0], [0, 5, 5, 0, 0, 0, 0], [0, 0, 0, 0, 0, 0, 0]]
theorem derT_all : ∀ k : Fin 7, ∀ j : Fin 7, ((derT.getD k.val []).map (Value.int .i64))[j.val]? = some (.int .i64 (deriveI k.val j.val)) := by
  intro k j
  have : ∀ k : Fin 7, ∀ j : Fin 7, (derT.getD k.val [])[j.val]? = some (deriveI k.val j.val) := by decide +kernel
  rw [List.getElem?_map, this k j]; rfl
theorem der_cells {w w8 : World} (B : Nat) (hB : B = w.heap.size) (h : w8 = allocs w [.cells #[.int .i64 0, .int .i64 0, .int .i64 0, .int .i64 0, .int .i64 0, .int .i64 0, .int .i64 0] 3 (0, 0), .cells #[.int .i64 0, .int .i64 1, .int .i64 2, .int .i64 0, .int .i64 0, .int .i64 0, .int .i64 0] 3 (0, 0), .cells #[.int .i64 0, .int .i64 2, .int .i64 2, .int .i64 0, .int .i64 0, .int .i64 0, .int .i64 0] 3 (0, 0), .cells #[.int .i64 0, .int .i64 3, .int .i64 3, .int .i64 0, .int .i64 0, .int .i64 0, .int .i64 0] 3 (0, 0), .cells #[.int .i64 0, .int .i64 0, .int .i64 0, .int .i64 0, .int .i64 0, .int .i64 0, .int .i64 0] 3 (0, 0), .cells #[.int .i64 0, .int .i64 5, .int .i64 5, .int .i64 0, .int .i64 0, .int .i64 0, .int .i64 0] 3 (0, 0), .cells #[.int .i64 0, .int .i64 0, .int .i64 0, .int .i64 0, .int .i64 0, .int .i64 0, .int .i64 0] 3 (0, 0), .cells #[.slice (some ⟨w.heap.size, 0, none⟩) 7 7, .slice (some ⟨w.heap.size + 1, 0, none⟩) 7 7, .slice (some ⟨w.heap.size + 1 + 1, 0, none⟩) 7 7, .slice (some ⟨w.heap.size + 1 + 1 + 1, 0, none⟩) 7 7, .slice (some ⟨w.heap.size + 1 + 1 + 1 + 1, 0, none⟩) 7 7, .slice (some ⟨w.heap.size + 1 + 1 + 1 + 1 + 1, 0, none⟩) 7 7, .slice (some ⟨w.heap.size + 1 + 1 + 1 + 1 + 1 + 1, 0, none⟩) 7 7] 56 (0, 0)]) {k j : Nat} (hk : k ≤ 6) (hj : j ≤ 6) :
    w8.cell? ⟨B + 1 + 1 + 1 + 1 + 1 + 1 + 1, k, none⟩ = some (.slice (some ⟨B + k, 0, none⟩) 7 7) ∧ w8.cell? ⟨B + k, j, none⟩ = some (.int .i64 (deriveI k j)) := by
  subst hB
  constructor
  · have h7 : w8.heap[w.heap.size + 7]? = some (.cells #[.slice (some ⟨w.heap.size, 0, none⟩) 7 7, .slice (some ⟨w.heap.size + 1, 0, none⟩) 7 7, .slice (some ⟨w.heap.size + 1 + 1, 0, none⟩) 7 7, .slice (some ⟨w.heap.size + 1 + 1 + 1, 0, none⟩) 7 7, .slice (some ⟨w.heap.size + 1 + 1 + 1 + 1, 0, none⟩) 7 7, .slice (some ⟨w.heap.size + 1 + 1 + 1 + 1 + 1, 0, none⟩) 7 7, .slice (some ⟨w.heap.size + 1 + 1 + 1 + 1 + 1 + 1, 0, none⟩) 7 7] 56 (0, 0)) := by rw [h, allocs_at]; rfl
    rw [show w.heap.size + 1 + 1 + 1 + 1 + 1 + 1 + 1 = w.heap.size + 7 from rfl, Lib.cell_of_heap h7]
    match k, hk with
    | 0, _ => rfl
    | 1, _ => rfl
    | 2, _ => rfl
    | 3, _ => rfl
    | 4, _ => rfl
    | 5, _ => rfl
    | 6, _ => rfl
  · have hr : w8.heap[w.heap.size + k]? = some (.cells ((derT.getD k []).map (Value.int .i64)).toArray 3 (0, 0)) := by
      rw [h, allocs_at]
      match k, hk with
      | 0, _ => rfl
      | 1, _ => rfl
      | 2, _ => rfl
      | 3, _ => rfl
      | 4, _ => rfl
      | 5, _ => rfl
      | 6, _ => rfl
    rw [Lib.cell_of_heap hr, List.getElem?_toArray]
    exact derT_all ⟨k, by omega⟩ ⟨j, by omega⟩
set_option maxHeartbeats 4000000 in
theorem refDerive_any (o i : Int) (w : World) : Calls Tryd.prog 15 #[.int .i64 o, .int .i64 i] w fun e w' => e = .returned (.int .i64 (deriveI o i)) ∧ Below w.heap.size w w' := by
  rcases (show o < 0 ∨ 6 < o ∨ ((0 ≤ o ∧ o ≤ 6) ∧ i < 0) ∨ ((0 ≤ o ∧ o ≤ 6) ∧ 6 < i) ∨ ((0 ≤ o ∧ o ≤ 6) ∧ 0 ≤ i ∧ i ≤ 6) by omega) with h | h | ⟨⟨h, h2⟩, h3⟩ | ⟨⟨h, h2⟩, h3⟩ | ⟨⟨h, h2⟩, h3, h4⟩
  case inr.inr.inr.inr =>
    obtain ⟨k, rfl⟩ : ∃ k : Nat, o = k := ⟨o.toNat, by omega⟩
    obtain ⟨j, rfl⟩ : ∃ j : Nat, i = j := ⟨i.toNat, by omega⟩
    have hk : k ≤ 6 := by omega
    have hj : j ≤ 6 := by omega
    clear h h2 h3 h4
    go_enter Tryd.func15, Tryd.ntmps15
    go_upto_region 4 with (fail)
    generalize hw8 : (World.alloc _ _) = w8
    have HB : Hid (Below w.heap.size w w8) := Lib.hid (by rw [← hw8]; exact allocs_below [_, _, _, _, _, _, _, _] w w (Below.refl _ _))
    obtain ⟨B, hB⟩ : ∃ B, B = w.heap.size := ⟨_, rfl⟩
    obtain ⟨c1, c2⟩ := der_cells B hB (w := w) (w8 := w8) (by rw [← hw8]; rfl) hk hj
    rw [← hB]
    clear hw8 hB
    generalize hr : deriveI k j = r at c2
    have Hr := Lib.hid hr
    clear hr
    go_wp2
    go_ret
    exact ⟨ret_int (by rw [Hr.out]), HB.out⟩
  all_goals
    have Hr := Lib.hid (derive_out o i (by omega))
    go_enter Tryd.func15, Tryd.ntmps15
    go_wp2
    go_ret
    exact ⟨ret_int (by rw [Hr.out]), Below.refl _ _⟩
set_option maxHeartbeats 1000000 in
theorem refWider_any (a b : Int) (w : World) : Calls Tryd.prog 17 #[.int .i64 a, .int .i64 b] w fun e w' => e = .returned (.int .i64 (widerI a b)) ∧ w = w' := by
  go_enter Tryd.func17, Tryd.ntmps17
  go_wp2
  go_loop [5] (fun sv => ∃ s : Nat, 1 ≤ s ∧ s ≤ 6 ∧ sv = .int .i64 s ∧ Hid (¬ (1 ≤ a ∧ a < s)) ∧ Hid (¬ (1 ≤ b ∧ b < s))) (fun sv => 6 - (intOf sv).toNat)
  case atStart => exact ⟨1, Nat.le_refl _, by omega, rfl, Lib.hid (by omega), Lib.hid (by omega)⟩
  case round =>
    obtain ⟨s, hs1, hs6, rfl, Ha, Hb⟩ := hrel
    by_cases hs : s ≤ 5
    · have ha := Ha.out
      have hb := Hb.out
      rcases Classical.em (a = s) with h | h
      · have Hr := Lib.hid (show widerI a b = a by unfold widerI widthI; repeat' (first | omega | split))
        have ea : (a == (s : Int)) = true := beq_iff_eq.2 h
        clear h ha hb
        go_wp2
        go_ret
        exact ⟨ret_int (by rw [Hr.out]), rfl⟩
      · have ea : (a == (s : Int)) = false := beq_eq_false_iff_ne.2 h
        rcases Classical.em (b = s) with h2 | h2
        · have Hr := Lib.hid (show widerI a b = b by unfold widerI widthI; repeat' (first | omega | split))
          have eb : (b == (s : Int)) = true := beq_iff_eq.2 h2
          clear h ha hb h2
          go_wp2
          go_ret
          exact ⟨ret_int (by rw [Hr.out]), rfl⟩
        · have eb : (b == (s : Int)) = false := beq_eq_false_iff_ne.2 h2
          have Ha2 := Lib.hid (show ¬ (1 ≤ a ∧ a < ((s + 1 : Nat) : Int)) by omega)
          have Hb2 := Lib.hid (show ¬ (1 ≤ b ∧ b < ((s + 1 : Nat) : Int)) by omega)
          clear h ha hb h2
          go_wp2
          go_round
          case rel => exact ⟨s + 1, by omega, by omega, by go_num, Ha2, Hb2⟩
          case measure => simp [intOf]; omega
    · obtain rfl : s = 6 := by omega
      have Hr := Lib.hid (show widerI a b = a by have := Ha.out; have := Hb.out; unfold widerI widthI; repeat' (first | omega | split))
      go_wp2
      go_ret
      exact ⟨ret_int (by rw [Hr.out]), rfl⟩
end Go.Proofs.YtldhgdoeehnbjaaDoor
