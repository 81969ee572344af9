/- lives() of package pomacelaw28. -/
import Derived.Test.YtgfbmidpiamkhaaDoorQDiW11
import Derived.Test.YtgfbmidpiamkhaaDoorQFnSame
import Derived.Test.YtgfbmidpiamkhaaDoorZf
namespace Go.Proofs.YtgfbmidpiamkhaaDoor
open Go.RowKit
open D28

def MaxAt (m : Int) (w : World) : Prop := w.cell? ⟨0, 0, none⟩ = some (.int .i64 m)
theorem MaxAt.up {m : Int} {W w : World} (h : MaxAt m W) (hb : Below W.heap.size W w) : MaxAt m w := (hb.cell (p := ⟨_, _, _⟩) (World.block_lt_of_cell? W _ h)).trans h
def liveS : Bs := [112, 32, 99, 110, 102, 32, 50, 32, 50, 10, 49, 32, 45, 50, 32, 48, 10, 50, 32, 48, 10]
theorem live_lines : linesOf liveS = [(1, [[112], [99, 110, 102], [50], [50]]), (2, [[49], [45, 50], [48]]), (3, [[50], [48]])] := by decide +kernel
theorem live_ok : POk liveS 2 2 [(2, [[49], [45, 50], [48]]), (3, [[50], [48]])] [[1, -2], [2]] :=
  ⟨⟨1, [50], [50], live_lines, by decide +kernel, by decide +kernel⟩, by decide, by decide, by decide +kernel, by decide⟩
theorem live_print : printQ 2 [[1, -2], [2]] = liveS := by
  have h1 : digL 1 = [49] := digL_small (by omega)
  have h2 : digL 2 = [50] := digL_small (by omega)
  simp [printQ, printL, lineL, litT, numL, h1, h2, pcnf, liveS]
theorem live_light : LightL [[1, -2], [2]] := by
  refine ⟨by simp, fun c hc => ?_⟩
  simp only [List.mem_cons, List.not_mem_nil, or_false] at hc
  rcases hc with rfl | rfl <;> refine ⟨by simp, fun n hn => ?_⟩ <;> simp only [List.mem_cons, List.not_mem_nil, or_false] at hn
  · rcases hn with rfl | rfl <;> exact ⟨⟨by decide, by decide⟩, by decide⟩
  · subst hn; exact ⟨⟨by decide, by decide⟩, by decide⟩
theorem live_rows (w : World) (S : Nat → Prop) {a b c : Nat} (ha : w.heap[a]? = some (.cells #[.int .i64 1, .int .i64 (-2)] 3 (0, 0))) (hb : w.heap[b]? = some (.cells #[.int .i64 2] 3 (0, 0)))
    (hc : w.heap[c]? = some (.cells #[.slice (some ⟨a, 0, none⟩) 2 2, .slice (some ⟨b, 0, none⟩) 1 1] 56 (0, 0))) (hS : S a ∧ S b ∧ S c) : RIntss w S (.slice (some ⟨c, 0, none⟩) 2 2) [[1, -2], [2]] := by
  have r1 : RInts w S (.slice (some ⟨a, 0, none⟩) 2 2) [1, -2] := ⟨_, _, rfl, by simp, by unfold maxLen; simp, fun _ => ⟨a, 0, rfl, hS.1, fun k hk => match k, hk with
    | 0, _ => ⟨_, cell_of_row _ _ 0 _ _ _ ha, rfl⟩
    | 1, _ => ⟨_, cell_of_row _ _ 1 _ _ _ ha, rfl⟩⟩⟩
  have r2 : RInts w S (.slice (some ⟨b, 0, none⟩) 1 1) [2] := ⟨_, _, rfl, by simp, by unfold maxLen; simp, fun _ => ⟨b, 0, rfl, hS.2.1, fun k hk => match k, hk with
    | 0, _ => ⟨_, cell_of_row _ _ 0 _ _ _ hb, rfl⟩⟩⟩
  exact ⟨_, _, rfl, by simp, by unfold maxLen; simp, fun _ => ⟨c, 0, rfl, hS.2.2, fun k hk => match k, hk with
    | 0, _ => ⟨_, cell_of_row _ _ 0 _ _ _ hc, r1⟩
    | 1, _ => ⟨_, cell_of_row _ _ 1 _ _ _ hc, r2⟩⟩⟩
set_option maxRecDepth 100000 in
set_option maxHeartbeats 4000000 in
theorem lives_any (m : Int) (w : World) (hm : MaxAt m w) : Calls Tryd.prog 9 #[] w fun e w' => e = .returned (.bool true) ∧ Below w.heap.size w w' := by
  have hlit : (⟨#[112, 32, 99, 110, 102, 32, 50, 32, 50, 10, 49, 32, 45, 50, 32, 48, 10, 50, 32, 48, 10]⟩ : ByteArray) = bz liveS := rfl
  obtain ⟨w1, hw1⟩ : ∃ w1, w1 = ((((w.alloc (.cells #[.int .i64 1, .int .i64 (-2)] 3)).alloc (.cells #[.int .i64 2] 3)).alloc (.cells #[.slice (some ⟨w.heap.size, 0, none⟩) 2 2, .slice (some ⟨w.heap.size + 1, 0, none⟩) 1 1] 56)).alloc (.cells #[.int .i64 2, .slice (some ⟨w.heap.size + 1 + 1, 0, none⟩) 2 2] 24)) := ⟨_, rfl⟩
  have hb1 : Below w.heap.size w w1 := by rw [hw1]; exact (((below_alloc w _).alloc (by simp) _).alloc (by simp; omega) _).alloc (by simp; omega) _
  have hz1 : w1.heap.size = w.heap.size + 4 := by rw [hw1]; simp
  have ha : w1.heap[w.heap.size]? = some (.cells #[.int .i64 1, .int .i64 (-2)] 3 (0, 0)) := by rw [hw1]; exact heap_at_alloc (heap_at_alloc (heap_at_alloc (heap_alloc_new w _)))
  have hb : w1.heap[w.heap.size + 1]? = some (.cells #[.int .i64 2] 3 (0, 0)) := by rw [hw1]; exact heap_at_alloc (heap_at_alloc (heap_new (by simp)))
  have hc : w1.heap[w.heap.size + 1 + 1]? = some (.cells #[.slice (some ⟨w.heap.size, 0, none⟩) 2 2, .slice (some ⟨w.heap.size + 1, 0, none⟩) 1 1] 56 (0, 0)) := by rw [hw1]; exact heap_at_alloc (heap_new (by simp))
  have hq : w1.heap[w.heap.size + 1 + 1 + 1]? = some (.cells #[.int .i64 2, .slice (some ⟨w.heap.size + 1 + 1, 0, none⟩) 2 2] 24 (0, 0)) := by rw [hw1]; exact heap_new (by simp)
  have HR1 := Lib.hid (live_rows w1 (Lt w1.heap.size) ha hb hc ⟨by show _ < _; omega, by show _ < _; omega, by show _ < _; omega⟩)
  have HP := Lib.hid (Parse_ok liveS m 2 2 _ _ w1 (hm.up hb1) (by decide) live_ok (by decide +kernel))
  have HQ := Lib.hid hq
  have HB1 := Lib.hid hb1
  have HW1 := Lib.hid hw1
  clear ha hb hc hq hw1 hb1 hz1 hm
  go_enter Tryd.func9, Tryd.ntmps9
  rw [hlit]
  go_upto_region 3 with fail
  rw [← HW1.out]
  go_wp2_with fail
  refine HP.out.mono ?_
  rintro e w2 ⟨v, rfl, hr2, hb2⟩
  obtain ⟨A, cv, rfl, -, -⟩ := RSl.open_ hr2
  obtain ⟨w3, hw3⟩ : ∃ w3, w3 = w2.alloc (.cells #[.int .i64 2, .slice A 2 cv] 24) := ⟨_, rfl⟩
  have hb3 : Below w2.heap.size w2 w3 := by rw [hw3]; exact below_alloc _ _
  have hx3 : w3.heap[w2.heap.size]? = some (.cells #[.int .i64 2, .slice A 2 cv] 24 (0, 0)) := by rw [hw3]; exact heap_alloc_new _ _
  have hb13 := hb2.trans (hb3.mono hb2.size)
  have hq3 := (hb13.block _ (Array.getElem?_eq_some_iff.1 HQ.out).1).trans HQ.out
  have HR3 := Lib.hid (RIntss.stable.up HR1.out hb13)
  have HX3 := Lib.hid (RIntss.stable.up hr2 hb3)
  have HPr := Lib.hid (Print_any 2 (.slice (some ⟨w.heap.size + 1 + 1, 0, none⟩) 2 2) [[1, -2], [2]] w3 HR3.out live_light (by omega))
  rw [live_print] at HPr
  have k0 := cell_of_row _ _ 0 _ _ _ hq3
  have k1 := cell_of_row _ _ 1 _ _ _ hq3
  have HQ3 := Lib.hid hq3
  have HXc := Lib.hid hx3
  have HB13 := Lib.hid (HB1.out.trans (hb13.mono HB1.out.size))
  have HW3 := Lib.hid hw3
  have heqs : ((bz liveS).toList == (bz liveS).toList) = true := by simp
  clear hr2 hb2 hw3 hb3 hx3 hb13 hq3 HP HW1
  go_upto_region 4 with fail
  rw [← HW3.out]
  go_wp2_with (first
    | (go_at_call 10; refine HPr.out.mono ?_; rintro e w4 ⟨rfl, hb4⟩; have HB4 := Lib.hid (HB13.out.trans (hb4.mono HB13.out.size)); have HS := Lib.hid (Same_any (.slice A 2 cv) (.slice (some ⟨w.heap.size + 1 + 1, 0, none⟩) 2 2) [[1, -2], [2]] [[1, -2], [2]] w4 (RIntss.stable.up HX3.out hb4) (RIntss.stable.up HR3.out hb4)); have hq4 := (hb4.block _ (Array.getElem?_eq_some_iff.1 HQ3.out).1).trans HQ3.out; have hx4 := (hb4.block _ (Array.getElem?_eq_some_iff.1 HXc.out).1).trans HXc.out; have j0 := cell_of_row _ _ 0 _ _ _ hq4; have j1 := cell_of_row _ _ 1 _ _ _ hq4; have x0 := cell_of_row _ _ 0 _ _ _ hx4; have x1 := cell_of_row _ _ 1 _ _ _ hx4; clear hb4 hq4 hx4)
    | (go_at_call 12; refine HS.out.mono ?_; rintro e w5 ⟨rfl, n, rfl⟩; rw [show decide (([[1, -2], [2]] : List (List Int)) = [[1, -2], [2]]) = true from by decide]))
  go_ret
  exact ⟨rfl, below_drewN HB4.out _⟩
end Go.Proofs.YtgfbmidpiamkhaaDoor
