/- What slices.Delete of one row and slices.Clone compute on rows of the call's own memory. -/
import Derived.Test.YtdofiipckcfopaaPlain
import Derived.Lib.SlicesDelete
import Derived.Shelf.RegionOpenPlain
import Derived.Lib.SliceRun
import Derived.Deep.RegionLaw
import Derived.Deep.Upon
namespace Go.Proofs.Ytdofiipckcfopaa
open Go.RowKit

theorem eInt : Elem1 Try.prog 27 3 8 := elem1_mk (z := .int .i64 0) Try.underlying27 (by kernel_rfl) (by omega) rfl
theorem heap_setCells (g : Nat) (t : TypeId) : ∀ (vs : List Value) (o : Nat) (w : World) (cur : Array Value), w.heap[g]? = some (.cells cur t (0, 0)) → (w.setCells g o vs).heap[g]? = some (.cells (Go.Lib.lay cur o vs) t (0, 0))
  | [], _, _, _, h => h
  | v :: r, o, w, cur, h => heap_setCells g t r (o + 1) _ _ (heap_setCell_same w g o cur t v h)
theorem size_setCells (g : Nat) : ∀ (vs : List Value) (o : Nat) (w : World), (w.setCells g o vs).heap.size = w.heap.size
  | [], _, _ => rfl
  | v :: r, o, w => by rw [World.setCells, size_setCells g r]; simp
theorem setCells_grown (g o : Nat) (vs : List Value) (w : World) : w.grownBy (w.setCells g o vs) (some g) :=
  ⟨World.os_setCells _ _ _ _, by
    have : ∀ (vs : List Value) (o : Nat) (w : World), (w.setCells g o vs).tape = w.tape := by
      intro vs
      induction vs with
      | nil => intro o w; rfl
      | cons v r ih => intro o w; rw [World.setCells, ih]; rfl
    exact this _ _ _, World.output_setCells _ _ _ _, by rw [size_setCells]; exact Nat.le_refl _, fun k hk hne => World.heap_setCells_other w g o vs hk (fun e => hne (by rw [e]))⟩
theorem drew_grown (w : World) (r : Option Nat) : w.grownBy w.drew r := ⟨rfl, rfl, rfl, Nat.le_refl _, fun _ _ _ => rfl⟩
theorem lay_take_row {cur : Array Value} {n cap i : Nat} {xs : List Value} (hsz : cur.size = cap * 1) (hn : n ≤ cap) (ht : cur.toList.take (n * 1) = xs) (hi : i < n) (z : Value) :
    (Go.Lib.lay (Go.Lib.lay cur i (xs.drop (i + 1))) (n - 1) [z]).size = cap * 1 ∧ (Go.Lib.lay (Go.Lib.lay cur i (xs.drop (i + 1))) (n - 1) [z]).toList.take ((n - 1) * 1) = xs.eraseIdx i := by
  rw [Nat.mul_one] at hsz ht
  have hxl : xs.length = n := by rw [← ht]; simp; omega
  have hdl : (xs.drop (i + 1)).length = n - (i + 1) := by simp [hxl]
  have hl1 : (Go.Lib.lay cur i (xs.drop (i + 1))).size = cur.size := Go.Lib.lay_size _ _ _
  refine ⟨by rw [Go.Lib.lay_size, hl1]; omega, ?_⟩
  apply List.ext_getElem?
  intro t
  rw [Nat.mul_one, List.getElem?_take, List.getElem?_eraseIdx]
  by_cases ht1 : t < n - 1
  · rw [if_pos ht1, Array.getElem?_toList, Go.Lib.lay_get? _ _ _ _ (by rw [hl1]; simp; omega), if_neg (by simp; omega), Go.Lib.lay_get? _ _ _ _ (by rw [hdl]; omega), hdl]
    have hc : ∀ j, j < n → cur[j]? = xs[j]? := by
      intro j hj
      rw [← ht, List.getElem?_take, if_pos hj, Array.getElem?_toList]
    by_cases h2 : t < i
    · rw [if_neg (by omega), if_pos h2, hc t (by omega)]
    · rw [if_pos (by omega), if_neg h2, List.getElem?_drop]
      congr 1
      omega
  · rw [if_neg ht1]
    split
    · omega
    · rw [List.getElem?_eq_none (by omega)]

set_option maxRecDepth 100000 in
set_option maxHeartbeats 4000000 in
theorem Delete_any (g cap n i base : Nat) (xs : List Value) (w : World) (hown : w.ownsRow base 27 1 (.slice (some ⟨g, 0, none⟩) n cap) n xs) (h1 : ∀ x ∈ xs, x.oneCell' = true) (hi : i < n) (hn : n ≤ 1000000) :
    Calls Try.prog 76 #[.slice (some ⟨g, 0, none⟩) n cap, .int .i64 i, .int .i64 ((i : Int) + 1)] w fun e w' => e = .returned (.slice (some ⟨g, 0, none⟩) (n - 1) cap) ∧
      w'.ownsRow base 27 1 (.slice (some ⟨g, 0, none⟩) (n - 1) cap) (n - 1) (xs.eraseIdx i) ∧ w.grownBy w' (some g) := by
  have hxl : xs.length = n := by simpa using hown.1
  have hcell := fun j hj => hown.cellAt (g := g) (cap := cap) j hj
  have hfrz := fun j => hown.frozenAt (g := g) (cap := cap) j
  obtain ⟨_, ⟨h, _⟩ | ⟨g', cap', cur, h, hbg, hh, hnc, hcm, hsz, htk⟩⟩ := hown
  · cases h
  cases h
  obtain ⟨news, hnews⟩ : ∃ news, news = xs.drop (i + 1) := ⟨_, rfl⟩
  have hlen : news.length = n - (i + 1) := by rw [hnews]; simp [hxl]
  have hget : ∀ t, t < n - (i + 1) → news[t]? = xs[i + 1 + t]? := by intro t ht; rw [hnews, List.getElem?_drop]
  obtain ⟨A, hA, hsrc⟩ : ∃ A : Addr, (if cap = i + 1 then some (⟨g, 0, none⟩ : Addr) else some ⟨g, i + 1, none⟩) = some A ∧ Hid (∀ t u, news[t]? = some u → w.drew.cell? (A.add t) = some u) := by
    by_cases h : cap = i + 1
    · refine ⟨⟨g, 0, none⟩, by simp [h], fun t u hu => ?_⟩
      have h0 : news.length = 0 := by rw [hlen]; omega
      rw [List.length_eq_zero_iff.1 h0] at hu
      simp at hu
    · refine ⟨⟨g, i + 1, none⟩, by simp [h], fun t u hu => ?_⟩
      have ht : t < n - (i + 1) := by
        have := (List.getElem?_eq_some_iff.1 hu).1
        rwa [hlen] at this
      rw [hget t ht] at hu
      rw [add_none]
      show w.cell? _ = _
      rw [hcell (i + 1 + t) (by omega)]
      exact hu
  have s1 : Hid (news.length = (n - (i + 1)) * 1) := by rw [Hid, Nat.mul_one]; exact hlen
  have s2 : Hid (∀ u ∈ news, u.oneCell' = true) := by
    intro u hu
    rw [hnews] at hu
    exact h1 u (List.mem_of_mem_drop hu)
  have s3 : Hid (∀ t, t < news.length → (w.drew.cell? ⟨g, 0 + i * 1 + t, none⟩).isSome = true ∧ w.drew.frozen? ⟨g, 0 + i * 1 + t, none⟩ = false) := by
    intro t ht
    rw [hlen] at ht
    rw [Nat.mul_one, Nat.zero_add]
    refine ⟨?_, hfrz _⟩
    show (w.cell? _).isSome = true
    rw [hcell (i + t) (by omega), List.getElem?_eq_getElem (by omega)]; rfl
  obtain ⟨W1, hW1⟩ : ∃ W1, W1 = w.drew.setCells g (0 + i * 1) news := ⟨_, rfl⟩
  have hh1 : W1.heap[g]? = some (.cells (Go.Lib.lay cur i (xs.drop (i + 1))) 27 (0, 0)) := by
    rw [hW1, Nat.mul_one, Nat.zero_add, hnews]
    exact heap_setCells g _ _ _ _ cur hh
  have hg1 : w.grownBy W1 (some g) := by rw [hW1]; exact (drew_grown w _).trans (setCells_grown _ _ _ _)
  have hc1 : (W1.cell? ⟨g, n - 1, none⟩).isSome = true := by
    rw [cell_of_row _ _ _ _ _ _ hh1]
    have : (Go.Lib.lay cur i (xs.drop (i + 1))).size = cap * 1 := by rw [Go.Lib.lay_size]; exact hsz
    rw [Array.getElem?_eq_getElem (by omega)]; rfl
  have hf1 : W1.frozen? ⟨g, n - 1, none⟩ = false := frozen_of_row W1 g _ _ _ hh1
  have hcl : ∀ ty, (Builtin.clear_ #[22] ty #[.slice (some ⟨g, n - 1, none⟩) 1 (cap - (n - 1))]).run Try.prog W1 = .ok (.tuple #[]) (W1.setCells g (n - 1) (List.replicate 1 (.slice none 0 0))) :=
    fun ty => Go.Lib.run_clear_slice W1 _ 27 ty (.slice none 0 0) Try.underlying22 (fun _ => by kernel_rfl) rfl rfl g (n - 1) 1 _ (by omega) (fun t ht => by rw [show n - 1 + t = n - 1 by omega]; exact hc1) (fun t ht => by rw [show n - 1 + t = n - 1 by omega]; exact hf1)
  obtain ⟨i0, z0, hi0, hz0, hz1, hzz⟩ : ∃ i0 z, Try.prog.info? 27 = some i0 ∧ i0.zero = some z ∧ i0.size = 1 ∧ i0.bytes = 24 := by
    obtain ⟨a, b, c, d, e⟩ := info_parts (P := Try.prog) (e := 27) (z := .slice none 0 0) (size := 1) (bytes := 24) (by kernel_rfl)
    exact ⟨a, _, b, c, d, e⟩
  have hcl' : ∀ ty, (Builtin.clear_ #[22] ty #[.slice (some ⟨g, i + (n - (i + 1)), none⟩) (n - (i + (n - (i + 1)))) (cap - (i + (n - (i + 1))))]).run Try.prog W1 = .ok (.tuple #[]) (W1.setCells g (n - 1) [.slice none 0 0]) := by
    rw [show i + (n - (i + 1)) = n - 1 by omega, show n - (n - 1) = 1 by omega]; exact hcl
  clear hcl
  have Hg1 := Lib.hid hg1; have Hh1 := Lib.hid hh1
  have hW : Hid (W1 = w.drew.setCells g (0 + i * 1) news) := hW1
  have Hfin := Lib.hid (lay_take_row (z := .slice none 0 0) hsz hnc htk hi)
  have hic : i ≤ cap := by omega
  have hjc : i + 1 ≤ cap := by omega
  clear hW1 hh1 hg1 hc1 hf1 hcell hfrz hh hget hnews hlen hsz htk hxl h1
  have mixed : Try.prog.follows Departure.mixedOrders = true := by kernel_rfl
  have hin : (i : Int) + 1 ≤ n := by omega
  have hi0' : (0 : Int) ≤ (i : Int) + 1 := by omega
  go_enter Try.func76, Try.ntmps76
  go_wp2_with fail
  go_region_law_o (refine step_append_room rfl (.tmp 22) (.tmp 25) 22 rfl 27 i0 1 Try.underlying22 hi0 hz1 g 0 i cap (by simp [Act.eval, Act.put]) A (n - (i + 1)) (cap - (i + 1)) news (by simp [Act.eval, Act.put]) s1.out hsrc.out s2.out (by omega) s3.out ?_; rw [← hW.out])
  go_wp2
  go_ret
  refine ⟨by rw [show i + (n - (i + 1)) = n - 1 by omega]; rfl, ?_, Hg1.out.trans (setCells_grown _ _ _ _)⟩
  have hel : (xs.eraseIdx i).length = (n - 1) * 1 := by rw [List.length_eraseIdx_of_lt (by omega)]; omega
  exact ⟨hel, .inr ⟨g, cap, _, rfl, hbg, heap_setCells g _ _ _ _ _ Hh1.out, by omega, hcm, Hfin.out.1, Hfin.out.2⟩⟩

set_option maxRecDepth 100000 in
set_option maxHeartbeats 1000000 in
theorem Clone_any (s : Value) (l : List Int) (w : World) (hs : RInts w (Lt w.heap.size) s l) (hl : l.length ≤ 1000000) :
    Calls Try.prog 27 #[s] w fun e w' => ∃ v, e = .returned v ∧ w'.ownsRow w.heap.size 3 1 v l.length (l.map (Value.int .i64)) ∧ Below w.heap.size w w' := by
  obtain ⟨A, c, rfl, hm, hat⟩ := hs.open_
  have q22 : ∀ (w : World) (a : Option Addr) (n c n' c' : Nat), (binOp .eql 27 (.slice a n c) (.slice none n' c')).run Try.prog w = .ok (.bool a.isNone) w := fun w a n c n' c' => Go.Lib.run_eql_slice_nil w _ _ a n c n' c' Try.underlying27
  cases A with
  | none =>
    have h0 : l = [] := by
      cases l with
      | nil => rfl
      | cons x r => obtain ⟨b, off, e, _⟩ := hat (by simp); cases e
    subst h0
    go_enter Try.func27, Try.ntmps27
    go_wp2
    go_ret
    exact ⟨_, rfl, by simpa using World.ownsRow_nil _ _ _ _, Below.refl _ _⟩
  | some A =>
    go_enter Try.func27, Try.ntmps27
    have Hc := Lib.hid (rat_cells (f := Value.int .i64) (fun _ _ _ _ h => h) hat)
    go_wp2_with (
      at_builtin
      go_must (refine wpList_appendL rfl _ _ _ rfl eInt (v := .slice (some ⟨w.heap.size, 0, none⟩) 0 0) rfl (World.ownsRow_lit (base := w.heap.size) (e := 3) (size := 1) w #[] 0 (Nat.le_refl _) (by unfold maxLen; omega) rfl) A l.length c (l.map (Value.int .i64)) rfl (by simp) (fun j u hu => ?hcell) ?hone (by omega) (by simp) ?_)
      rotate_left 2
      intro v1 w3 hown1 hg1 hat1)
    case hcell =>
      have := Hc.out j u hu
      have hb := World.block_lt_of_cell? w _ this
      rw [World.cell?_alloc_lt _ _ _ hb]
      exact this
    case hone =>
      intro u hu
      obtain ⟨x, _, rfl⟩ := List.mem_map.1 hu
      rfl
    go_ret
    exact ⟨v1, rfl, by simpa using hown1, (below_alloc _ _).grown hg1 (by simp) (fun k hk => by simp [Value.ownBlock] at hk; omega)⟩
end Go.Proofs.Ytdofiipckcfopaa
