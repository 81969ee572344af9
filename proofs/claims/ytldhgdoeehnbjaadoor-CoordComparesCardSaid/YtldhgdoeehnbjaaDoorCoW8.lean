/- the reference of Visible. -/
import Derived.Test.YtldhgdoeehnbjaaDoorCoW7
namespace Go.Proofs.YtldhgdoeehnbjaaDoor
open Go.RowKit

def visT : List (List Int) := [[], [1, 3, 4], [1, 2], [1, 3], [4], [1, 2, 3, 4, 5]]
def visR (k : Nat) : List Int := visT.getD k []
theorem visR_mem (s : Int) (k : Nat) (hk : k ≤ 5) : visB s k = (visR k).any (fun x => x == s) := by
  rw [Bool.eq_iff_iff]
  unfold visB visR visT
  match k, hk with
  | 0, _ => simp
  | 1, _ => simp; omega
  | 2, _ => simp; omega
  | 3, _ => simp; omega
  | 4, _ => simp; omega
  | 5, _ => simp; omega
theorem vis_out (s p : Int) (h : p < 0 ∨ 5 < p) : visB s p = false := decide_eq_false (by omega)
theorem vis_cells {w w8 : World} (B : Nat) (hB : B = w.heap.size) (h : w8 = allocs w [.cells #[] 3 (0, 0), .cells #[.int .i64 1, .int .i64 3, .int .i64 4] 3 (0, 0), .cells #[.int .i64 1, .int .i64 2] 3 (0, 0), .cells #[.int .i64 1, .int .i64 3] 3 (0, 0), .cells #[.int .i64 4] 3 (0, 0), .cells #[.int .i64 1, .int .i64 2, .int .i64 3, .int .i64 4, .int .i64 5] 3 (0, 0), .cells #[.slice (some ⟨w.heap.size, 0, none⟩) 0 0, .slice (some ⟨w.heap.size + 1, 0, none⟩) 3 3, .slice (some ⟨w.heap.size + 1 + 1, 0, none⟩) 2 2, .slice (some ⟨w.heap.size + 1 + 1 + 1, 0, none⟩) 2 2, .slice (some ⟨w.heap.size + 1 + 1 + 1 + 1, 0, none⟩) 1 1, .slice (some ⟨w.heap.size + 1 + 1 + 1 + 1 + 1, 0, none⟩) 5 5] 56 (0, 0)]) {k : Nat} (hk : k ≤ 5) :
    w8.cell? ⟨B + 1 + 1 + 1 + 1 + 1 + 1, k, none⟩ = some (.slice (some ⟨B + k, 0, none⟩) (visR k).length (visR k).length) ∧ ∀ j (hj : j < (visR k).length), w8.cell? ⟨B + k, j, none⟩ = some (.int .i64 (visR k)[j]) := by
  subst hB
  constructor
  · have h7 : w8.heap[w.heap.size + 6]? = some (.cells #[.slice (some ⟨w.heap.size, 0, none⟩) 0 0, .slice (some ⟨w.heap.size + 1, 0, none⟩) 3 3, .slice (some ⟨w.heap.size + 1 + 1, 0, none⟩) 2 2, .slice (some ⟨w.heap.size + 1 + 1 + 1, 0, none⟩) 2 2, .slice (some ⟨w.heap.size + 1 + 1 + 1 + 1, 0, none⟩) 1 1, .slice (some ⟨w.heap.size + 1 + 1 + 1 + 1 + 1, 0, none⟩) 5 5] 56 (0, 0)) := by rw [h, allocs_at]; rfl
    rw [show w.heap.size + 1 + 1 + 1 + 1 + 1 + 1 = w.heap.size + 6 from rfl, Lib.cell_of_heap h7]
    match k, hk with
    | 0, _ => rfl
    | 1, _ => rfl
    | 2, _ => rfl
    | 3, _ => rfl
    | 4, _ => rfl
    | 5, _ => rfl
  · intro j hj
    have hr : w8.heap[w.heap.size + k]? = some (.cells ((visR k).map (Value.int .i64)).toArray 3 (0, 0)) := by
      rw [h, allocs_at]
      match k, hk with
      | 0, _ => rfl
      | 1, _ => rfl
      | 2, _ => rfl
      | 3, _ => rfl
      | 4, _ => rfl
      | 5, _ => rfl
    rw [Lib.cell_of_heap hr]
    simp [hj]
theorem visR_len (k : Nat) (hk : k ≤ 5) : (visR k).length ≤ 5 := by
  match k, hk with
  | 0, _ => decide
  | 1, _ => decide
  | 2, _ => decide
  | 3, _ => decide
  | 4, _ => decide
  | 5, _ => decide
set_option maxHeartbeats 2000000 in
theorem refVisible_any (s p : Int) (w : World) : Calls Tryd.prog 19 #[.int .i64 s, .int .i64 p] w fun e w' => e = .returned (.bool (visB s p)) ∧ Below w.heap.size w w' := by
  rcases (show p < 0 ∨ 5 < p ∨ (0 ≤ p ∧ p ≤ 5) by omega) with h | h | ⟨h, h2⟩
  case inr.inr =>
    obtain ⟨k, rfl⟩ : ∃ k : Nat, p = k := ⟨p.toNat, by omega⟩
    have hk : k ≤ 5 := by omega
    clear h h2
    have Hr := Lib.hid (visR_mem s k hk)
    have hlen := visR_len k hk
    go_enter Tryd.func19, Tryd.ntmps19
    go_upto_region 2 with (fail)
    generalize hw8 : (World.alloc _ _) = w8
    have HB : Hid (Below w.heap.size w w8) := Lib.hid (by rw [← hw8]; exact allocs_below [_, _, _, _, _, _, _] w w (Below.refl _ _))
    obtain ⟨B, hB⟩ : ∃ B, B = w.heap.size := ⟨_, rfl⟩
    obtain ⟨c1, c2⟩ := vis_cells B hB (w := w) (w8 := w8) (by rw [← hw8]; rfl) hk
    rw [← hB]
    have HC := Lib.hid c2
    clear hw8 hB c2
    generalize visR k = L at Hr hlen c1 HC
    go_wp2
    go_loop [26] (fun sv => ∃ j : Nat, j ≤ L.length ∧ sv = .int .i64 j ∧ Hid ((L.take j).any (fun x => x == s) = false)) (fun sv => L.length - (intOf sv).toNat)
    case atStart => exact ⟨0, Nat.zero_le _, rfl, hid_nil_any _ _⟩
    case round =>
      obtain ⟨j, hjl, rfl, Hi⟩ := hrel
      by_cases hj : j < L.length
      · have hc := HC.out j hj
        cases hx : (L[j] == s) with
        | true =>
          have Hz := Lib.hid (Hr.out.trans (any_at (p := fun x => x == s) hx))
          generalize L[j] = y at hc hx
          go_wp2
          go_ret
          exact ⟨ret_bool (by rw [Hz.out]), HB.out⟩
        | false =>
          have Hn := Lib.hid (hid_any_succ (p := fun x => x == s) hj Hi hx)
          generalize L[j] = y at hc hx
          go_wp2
          go_round
          case rel => exact ⟨j + 1, by omega, by go_num, Hn.out⟩
          case measure => simp [intOf]; omega
      · obtain rfl : j = L.length := by omega
        have Hz := Lib.hid (Hr.out.trans (hid_any_end Hi))
        go_wp2
        go_ret
        exact ⟨ret_bool (by rw [Hz.out]), HB.out⟩
  all_goals
    have Hr := Lib.hid (vis_out s p (by omega))
    go_enter Tryd.func19, Tryd.ntmps19
    go_upto_region 2 with (fail)
    generalize hw8 : (World.alloc _ _) = w8
    have HB : Hid (Below w.heap.size w w8) := Lib.hid (by rw [← hw8]; exact allocs_below [_, _, _, _, _, _, _] w w (Below.refl _ _))
    clear hw8
    go_wp2
    go_ret
    exact ⟨ret_bool (by rw [Hr.out]), HB.out⟩
end Go.Proofs.YtldhgdoeehnbjaaDoor
