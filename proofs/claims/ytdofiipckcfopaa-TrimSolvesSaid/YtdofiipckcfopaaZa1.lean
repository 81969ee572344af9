/- What slices.Delete of one row and slices.Clone compute on rows of the call's own memory. / A row of the call's own whose elements are read in memory of the call's own: it is pushed to. / How clauses are made fewer, step by step: plain law. / .. -/
import Derived.Lib.SlicesDelete
import Derived.Shelf.RegionOpenPlain
import Derived.Lib.SliceRun
import Derived.Deep.RegionLaw
import Derived.Deep.Upon
import Derived.Test.YtdofiipckcfopaaZa
namespace Go.Proofs.Ytdofiipckcfopaa
open Go.RowKit

theorem eInt : Elem1 Try.prog 27 3 8 := elem1_mk (z := .int .i64 0) Try.underlying27 (by kernel_rfl) (by omega) rfl
theorem heap_setCells (g : Nat) (t : TypeId) : ∀ (vs : List Value) (o : Nat) (w : World) (cur : Array Value), w.heap[g]? = some (.cells cur t (0, 0)) → (w.setCells g o vs).heap[g]? = some (.cells (Go.Lib.lay cur o vs) t (0, 0))
  | [], _, _, _, h => h
  | v :: r, o, w, cur, h => heap_setCells g t r (o + 1) _ _ (heap_setCell_same w g o cur t v h)
theorem size_setCells (g : Nat) : ∀ (vs : List Value) (o : Nat) (w : World), (w.setCells g o vs).heap.size = w.heap.size
  | [], _, _ => rfl
  | v :: r, o, w => by rw [World.setCells, size_setCells g r]; simp
theorem setCells_grown (g o : Nat) (vs : List Value) (w : World) : w.grownBy (w.setCells g o vs) (some g) :=
  ⟨World.os_setCells _ _ _ _, by
    have : ∀ (vs : List Value) (o : Nat) (w : World), (w.setCells g o vs).tape = w.tape := by
      intro vs
      induction vs with
      | nil => intro o w; rfl
      | cons v r ih => intro o w; rw [World.setCells, ih]; rfl
    exact this _ _ _, World.output_setCells _ _ _ _, by rw [size_setCells]; exact Nat.le_refl _, fun k hk hne => World.heap_setCells_other w g o vs hk (fun e => hne (by rw [e]))⟩
theorem drew_grown (w : World) (r : Option Nat) : w.grownBy w.drew r := ⟨rfl, rfl, rfl, Nat.le_refl _, fun _ _ _ => rfl⟩
theorem lay_take_row {cur : Array Value} {n cap i : Nat} {xs : List Value} (hsz : cur.size = cap * 1) (hn : n ≤ cap) (ht : cur.toList.take (n * 1) = xs) (hi : i < n) (z : Value) :
    (Go.Lib.lay (Go.Lib.lay cur i (xs.drop (i + 1))) (n - 1) [z]).size = cap * 1 ∧ (Go.Lib.lay (Go.Lib.lay cur i (xs.drop (i + 1))) (n - 1) [z]).toList.take ((n - 1) * 1) = xs.eraseIdx i := by
  rw [Nat.mul_one] at hsz ht
  have hxl : xs.length = n := by rw [← ht]; simp; omega
  have hdl : (xs.drop (i + 1)).length = n - (i + 1) := by simp [hxl]
  have hl1 : (Go.Lib.lay cur i (xs.drop (i + 1))).size = cur.size := Go.Lib.lay_size _ _ _
  refine ⟨by rw [Go.Lib.lay_size, hl1]; omega, ?_⟩
  apply List.ext_getElem?
  intro t
  rw [Nat.mul_one, List.getElem?_take, List.getElem?_eraseIdx]
  by_cases ht1 : t < n - 1
  · rw [if_pos ht1, Array.getElem?_toList, Go.Lib.lay_get? _ _ _ _ (by rw [hl1]; simp; omega), if_neg (by simp; omega), Go.Lib.lay_get? _ _ _ _ (by rw [hdl]; omega), hdl]
    have hc : ∀ j, j < n → cur[j]? = xs[j]? := by
      intro j hj
      rw [← ht, List.getElem?_take, if_pos hj, Array.getElem?_toList]
    by_cases h2 : t < i
    · rw [if_neg (by omega), if_pos h2, hc t (by omega)]
    · rw [if_pos (by omega), if_neg h2, List.getElem?_drop]
      congr 1
      omega
  · rw [if_neg ht1]
    split
    · omega
    · rw [List.getElem?_eq_none (by omega)]

set_option maxRecDepth 100000 in
set_option maxHeartbeats 4000000 in
theorem Delete_any (g cap n i base : Nat) (xs : List Value) (w : World) (hown : w.ownsRow base 27 1 (.slice (some ⟨g, 0, none⟩) n cap) n xs) (h1 : ∀ x ∈ xs, x.oneCell' = true) (hi : i < n) (hn : n ≤ 1000000) :
    Calls Try.prog 76 #[.slice (some ⟨g, 0, none⟩) n cap, .int .i64 i, .int .i64 ((i : Int) + 1)] w fun e w' => e = .returned (.slice (some ⟨g, 0, none⟩) (n - 1) cap) ∧
      w'.ownsRow base 27 1 (.slice (some ⟨g, 0, none⟩) (n - 1) cap) (n - 1) (xs.eraseIdx i) ∧ w.grownBy w' (some g) := by
  have hxl : xs.length = n := by simpa using hown.1
  have hcell := fun j hj => hown.cellAt (g := g) (cap := cap) j hj
  have hfrz := fun j => hown.frozenAt (g := g) (cap := cap) j
  obtain ⟨_, ⟨h, _⟩ | ⟨g', cap', cur, h, hbg, hh, hnc, hcm, hsz, htk⟩⟩ := hown
  · cases h
  cases h
  obtain ⟨news, hnews⟩ : ∃ news, news = xs.drop (i + 1) := ⟨_, rfl⟩
  have hlen : news.length = n - (i + 1) := by rw [hnews]; simp [hxl]
  have hget : ∀ t, t < n - (i + 1) → news[t]? = xs[i + 1 + t]? := by intro t ht; rw [hnews, List.getElem?_drop]
  obtain ⟨A, hA, hsrc⟩ : ∃ A : Addr, (if cap = i + 1 then some (⟨g, 0, none⟩ : Addr) else some ⟨g, i + 1, none⟩) = some A ∧ Hid (∀ t u, news[t]? = some u → w.drew.cell? (A.add t) = some u) := by
    by_cases h : cap = i + 1
    · refine ⟨⟨g, 0, none⟩, by simp [h], fun t u hu => ?_⟩
      have h0 : news.length = 0 := by rw [hlen]; omega
      rw [List.length_eq_zero_iff.1 h0] at hu
      simp at hu
    · refine ⟨⟨g, i + 1, none⟩, by simp [h], fun t u hu => ?_⟩
      have ht : t < n - (i + 1) := by
        have := (List.getElem?_eq_some_iff.1 hu).1
        rwa [hlen] at this
      rw [hget t ht] at hu
      rw [add_none]
      show w.cell? _ = _
      rw [hcell (i + 1 + t) (by omega)]
      exact hu
  have s1 : Hid (news.length = (n - (i + 1)) * 1) := by rw [Hid, Nat.mul_one]; exact hlen
  have s2 : Hid (∀ u ∈ news, u.oneCell' = true) := by
    intro u hu
    rw [hnews] at hu
    exact h1 u (List.mem_of_mem_drop hu)
  have s3 : Hid (∀ t, t < news.length → (w.drew.cell? ⟨g, 0 + i * 1 + t, none⟩).isSome = true ∧ w.drew.frozen? ⟨g, 0 + i * 1 + t, none⟩ = false) := by
    intro t ht
    rw [hlen] at ht
    rw [Nat.mul_one, Nat.zero_add]
    refine ⟨?_, hfrz _⟩
    show (w.cell? _).isSome = true
    rw [hcell (i + t) (by omega), List.getElem?_eq_getElem (by omega)]; rfl
  obtain ⟨W1, hW1⟩ : ∃ W1, W1 = w.drew.setCells g (0 + i * 1) news := ⟨_, rfl⟩
  have hh1 : W1.heap[g]? = some (.cells (Go.Lib.lay cur i (xs.drop (i + 1))) 27 (0, 0)) := by
    rw [hW1, Nat.mul_one, Nat.zero_add, hnews]
    exact heap_setCells g _ _ _ _ cur hh
  have hg1 : w.grownBy W1 (some g) := by rw [hW1]; exact (drew_grown w _).trans (setCells_grown _ _ _ _)
  have hc1 : (W1.cell? ⟨g, n - 1, none⟩).isSome = true := by
    rw [cell_of_row _ _ _ _ _ _ hh1]
    have : (Go.Lib.lay cur i (xs.drop (i + 1))).size = cap * 1 := by rw [Go.Lib.lay_size]; exact hsz
    rw [Array.getElem?_eq_getElem (by omega)]; rfl
  have hf1 : W1.frozen? ⟨g, n - 1, none⟩ = false := frozen_of_row W1 g _ _ _ hh1
  have hcl : ∀ ty, (Builtin.clear_ #[22] ty #[.slice (some ⟨g, n - 1, none⟩) 1 (cap - (n - 1))]).run Try.prog W1 = .ok (.tuple #[]) (W1.setCells g (n - 1) (List.replicate 1 (.slice none 0 0))) :=
    fun ty => Go.Lib.run_clear_slice W1 _ 27 ty (.slice none 0 0) Try.underlying22 (fun _ => by kernel_rfl) rfl rfl g (n - 1) 1 _ (by omega) (fun t ht => by rw [show n - 1 + t = n - 1 by omega]; exact hc1) (fun t ht => by rw [show n - 1 + t = n - 1 by omega]; exact hf1)
  obtain ⟨i0, z0, hi0, hz0, hz1, hzz⟩ : ∃ i0 z, Try.prog.info? 27 = some i0 ∧ i0.zero = some z ∧ i0.size = 1 ∧ i0.bytes = 24 := by
    obtain ⟨a, b, c, d, e⟩ := info_parts (P := Try.prog) (e := 27) (z := .slice none 0 0) (size := 1) (bytes := 24) (by kernel_rfl)
    exact ⟨a, _, b, c, d, e⟩
  have hcl' : ∀ ty, (Builtin.clear_ #[22] ty #[.slice (some ⟨g, i + (n - (i + 1)), none⟩) (n - (i + (n - (i + 1)))) (cap - (i + (n - (i + 1))))]).run Try.prog W1 = .ok (.tuple #[]) (W1.setCells g (n - 1) [.slice none 0 0]) := by
    rw [show i + (n - (i + 1)) = n - 1 by omega, show n - (n - 1) = 1 by omega]; exact hcl
  clear hcl
  have Hg1 := Lib.hid hg1; have Hh1 := Lib.hid hh1
  have hW : Hid (W1 = w.drew.setCells g (0 + i * 1) news) := hW1
  have Hfin := Lib.hid (lay_take_row (z := .slice none 0 0) hsz hnc htk hi)
  have hic : i ≤ cap := by omega
  have hjc : i + 1 ≤ cap := by omega
  clear hW1 hh1 hg1 hc1 hf1 hcell hfrz hh hget hnews hlen hsz htk hxl h1
  have mixed : Try.prog.follows Departure.mixedOrders = true := by kernel_rfl
  have hin : (i : Int) + 1 ≤ n := by omega
  have hi0' : (0 : Int) ≤ (i : Int) + 1 := by omega
  go_enter Try.func76, Try.ntmps76
  go_wp2_with fail
  go_region_law_o (refine step_append_room rfl (.tmp 22) (.tmp 25) 22 rfl 27 i0 1 Try.underlying22 hi0 hz1 g 0 i cap (by simp [Act.eval, Act.put]) A (n - (i + 1)) (cap - (i + 1)) news (by simp [Act.eval, Act.put]) s1.out hsrc.out s2.out (by omega) s3.out ?_; rw [← hW.out])
  go_wp2
  go_ret
  refine ⟨by rw [show i + (n - (i + 1)) = n - 1 by omega]; rfl, ?_, Hg1.out.trans (setCells_grown _ _ _ _)⟩
  have hel : (xs.eraseIdx i).length = (n - 1) * 1 := by rw [List.length_eraseIdx_of_lt (by omega)]; omega
  exact ⟨hel, .inr ⟨g, cap, _, rfl, hbg, heap_setCells g _ _ _ _ _ Hh1.out, by omega, hcm, Hfin.out.1, Hfin.out.2⟩⟩

set_option maxRecDepth 100000 in
set_option maxHeartbeats 1000000 in
theorem Clone_any (s : Value) (l : List Int) (w : World) (hs : RInts w (Lt w.heap.size) s l) (hl : l.length ≤ 1000000) :
    Calls Try.prog 27 #[s] w fun e w' => ∃ v, e = .returned v ∧ w'.ownsRow w.heap.size 3 1 v l.length (l.map (Value.int .i64)) ∧ Below w.heap.size w w' := by
  obtain ⟨A, c, rfl, hm, hat⟩ := hs.open_
  have q22 : ∀ (w : World) (a : Option Addr) (n c n' c' : Nat), (binOp .eql 27 (.slice a n c) (.slice none n' c')).run Try.prog w = .ok (.bool a.isNone) w := fun w a n c n' c' => Go.Lib.run_eql_slice_nil w _ _ a n c n' c' Try.underlying27
  cases A with
  | none =>
    have h0 : l = [] := by
      cases l with
      | nil => rfl
      | cons x r => obtain ⟨b, off, e, _⟩ := hat (by simp); cases e
    subst h0
    go_enter Try.func27, Try.ntmps27
    go_wp2
    go_ret
    exact ⟨_, rfl, by simpa using World.ownsRow_nil _ _ _ _, Below.refl _ _⟩
  | some A =>
    go_enter Try.func27, Try.ntmps27
    have Hc := Lib.hid (rat_cells (f := Value.int .i64) (fun _ _ _ _ h => h) hat)
    go_wp2_with (
      at_builtin
      go_must (refine wpList_appendL rfl _ _ _ rfl eInt (v := .slice (some ⟨w.heap.size, 0, none⟩) 0 0) rfl (World.ownsRow_lit (base := w.heap.size) (e := 3) (size := 1) w #[] 0 (Nat.le_refl _) (by unfold maxLen; omega) rfl) A l.length c (l.map (Value.int .i64)) rfl (by simp) (fun j u hu => ?hcell) ?hone (by omega) (by simp) ?_)
      rotate_left 2
      intro v1 w3 hown1 hg1 hat1)
    case hcell =>
      have := Hc.out j u hu
      have hb := World.block_lt_of_cell? w _ this
      rw [World.cell?_alloc_lt _ _ _ hb]
      exact this
    case hone =>
      intro u hu
      obtain ⟨x, _, rfl⟩ := List.mem_map.1 hu
      rfl
    go_ret
    exact ⟨v1, rfl, by simpa using hown1, (below_alloc _ _).grown hg1 (by simp) (fun k hk => by simp [Value.ownBlock] at hk; omega)⟩
end Go.Proofs.Ytdofiipckcfopaa

namespace Go.Proofs.Ytdofiipckcfopaa
open Go.RowKit

structure RowsG {α : Type} (R : Rd α) (e : TypeId) (w : World) (B : Nat) (v : Value) (us : List Value) (M : List α) : Prop where
  own : w.ownsRow B e 1 v M.length us
  rd : ∀ i (h : i < M.length) u, us[i]? = some u → R w (fun b => B ≤ b ∧ b < w.heap.size ∧ some b ≠ v.ownBlock) u M[i]
theorem RowsG.nil {α : Type} (R : Rd α) (e : TypeId) (w : World) (B : Nat) : RowsG R e w B (.slice none 0 0) [] [] := ⟨World.ownsRow_nil _ _ _ _, fun i h => absurd h (by simp)⟩
theorem RowsG.up {α : Type} {R : Rd α} (hs : Stable R) {e : TypeId} {w w' : World} {B : Nat} {v : Value} {us : List Value} {M : List α} (h : RowsG R e w B v us M) (hb : Below w.heap.size w w') : RowsG R e w' B v us M := by
  refine ⟨?_, fun i hi u hu => hs _ _ _ _ _ _ (h.rd i hi u hu) (fun b hb' => hb.block b hb'.2.1) fun b hb' => ⟨hb'.1, Nat.lt_of_lt_of_le hb'.2.1 hb.size, hb'.2.2⟩⟩
  obtain ⟨h1, h2⟩ := h.own
  refine ⟨h1, ?_⟩
  rcases h2 with h2 | ⟨g, cap, cur, e1, e2, e3, e4⟩
  · exact .inl h2
  · exact .inr ⟨g, cap, cur, e1, e2, (hb.block g (Array.getElem?_eq_some_iff.1 e3).1).trans e3, e4⟩
theorem RowsG.lt {α : Type} {R : Rd α} {e : TypeId} {w : World} {B : Nat} {v : Value} {us : List Value} {M : List α} (h : RowsG R e w B v us M) (b : Nat) (hb : v.ownBlock = some b) : B ≤ b ∧ b < w.heap.size := h.own.lt b hb
theorem RowsG.push {α : Type} {R : Rd α} (hs : Stable R) {e : TypeId} {w w3 w' : World} {B : Nat} {v v' u : Value} {us : List Value} {M : List α} {c : α} (h : RowsG R e w B v us M) (hB : B ≤ w.heap.size) (hb : Below w.heap.size w w3)
    (hu : R w3 (fun b => w.heap.size ≤ b ∧ b < w3.heap.size) u c) (hown : w'.ownsRow B e 1 v' (M.length + 1) (us ++ [u])) (hg : w3.grownBy w' v.ownBlock) (ho : v'.ownBlock = v.ownBlock ∨ v'.ownBlock = some w3.heap.size) :
    RowsG R e w' B v' (us ++ [u]) (M ++ [c]) := by
  have hul : us.length = M.length := by simpa using h.own.1
  refine ⟨by simpa using hown, fun i hi x hx => ?_⟩
  have hne : ∀ b, b < w3.heap.size → some b ≠ v.ownBlock → some b ≠ v'.ownBlock := fun b hb1 hb2 e => by
    rcases ho with ho | ho
    · exact hb2 (e.trans ho)
    · rw [ho] at e; simp at e; omega
  rcases Nat.lt_or_ge i M.length with k | k
  · rw [List.getElem_append_left k]
    rw [List.getElem?_append_left (by omega)] at hx
    refine hs _ _ _ _ _ _ (h.rd i k x hx) (fun b hb' => (hg.block b (Nat.lt_of_lt_of_le hb'.2.1 hb.size) hb'.2.2).trans (hb.block b hb'.2.1)) fun b hb' => ⟨hb'.1, Nat.lt_of_lt_of_le hb'.2.1 (Nat.le_trans hb.size hg.size), hne b (Nat.lt_of_lt_of_le hb'.2.1 hb.size) hb'.2.2⟩
  · have hik : i = M.length := by simp at hi; omega
    subst hik
    rw [List.getElem?_append_right (by omega), hul] at hx
    simp at hx
    subst hx
    rw [List.getElem_append_right (Nat.le_refl _)]
    simp only [Nat.sub_self, List.getElem_cons_zero]
    have hn2 : ∀ b : Nat, w.heap.size ≤ b → some b ≠ v.ownBlock := fun _ hb1 e => by have := (h.lt _ e.symm).2; omega
    exact hs _ _ _ _ _ _ hu (fun b hb' => hg.block b hb'.2 (hn2 _ hb'.1)) fun b hb' => ⟨Nat.le_trans hB hb'.1, Nat.lt_of_lt_of_le hb'.2 hg.size, hne b hb'.2 (hn2 b hb'.1)⟩
theorem RowsG.reads {α : Type} {R : Rd α} (hs : Stable R) {e : TypeId} {w : World} {B : Nat} {v : Value} {us : List Value} {M : List α} (h : RowsG R e w B v us M) : RSl R w (fun b => B ≤ b ∧ b < w.heap.size) v M :=
  reads_of_own h.own rfl (fun g hg => h.lt g hg) fun k hk u hu => hs.sub (h.rd k hk u hu) fun b hb => ⟨hb.1, hb.2.1⟩
end Go.Proofs.Ytdofiipckcfopaa

namespace Go.Proofs.Ytdofiipckcfopaa
open Go.RowKit

abbrev Cls := List (List Int)
def atC (C : Cls) (i : Nat) : List Int := C.getD i []
theorem atC_eq {C : Cls} {i : Nat} (h : i < C.length) : atC C i = C[i] := getD_at h
/-- The place of a second one of a literal. -/
def dupAt (c : List Int) (k : Nat) : Option Nat := if hasB (c.take k) (c.getD k 0) then some k else none
def dupK (c : List Int) : Option Nat := firstN (dupAt c) c.length
def twAt (C : Cls) (i : Nat) : Option Cls := match dupK (atC C i) with | some k => some (C.set i ((atC C i).eraseIdx k)) | none => none
def twiceC (C : Cls) : Option Cls := firstN (twAt C) C.length
def alwaysB (c : List Int) : Bool := c.any fun n => hasB c (-n)
def alAt (C : Cls) (i : Nat) : Option Cls := if alwaysB (atC C i) then some (C.eraseIdx i) else none
def alwaysC (C : Cls) : Option Cls := firstN (alAt C) C.length
def emptyB (C : Cls) : Bool := C.any fun c => decide (c.length = 0)
def fixC (C : Cls) (n : Int) : Cls := (C.filter fun c => !hasB c n).map fun c => c.filter fun k => !(k == -n)
def unAt (C : Cls) (i : Nat) : Option Int := if (atC C i).length = 1 then some ((atC C i).getD 0 0) else none
def unitC (C : Cls) : Option Int := firstN (unAt C) C.length
def posB (C : Cls) (v : Int) : Bool := C.any fun c => hasB c v
def puAt (C : Cls) (v : Nat) : Option Int := if posB C v && !posB C (-v) then some v else if posB C (-v) && !posB C v then some (-v) else none
def pureC (vars : Nat) (C : Cls) : Option Int := firstN (puAt C) (vars + 1)
def withinB (a b : List Int) : Bool := a.all (hasB b)
/-- Clause k goes, because of clause i. -/
def cvB (C : Cls) (i k : Nat) : Bool := !(decide (i = k) || decide ((atC C k).length < (atC C i).length) || (decide ((atC C i).length = (atC C k).length) && decide (k < i)) || !withinB (atC C i) (atC C k))
def covAt (C : Cls) (i : Nat) : Option Cls := firstN (fun k => if cvB C i k then some (C.eraseIdx k) else none) C.length
def coverC (C : Cls) : Option Cls := firstN (covAt C) C.length

structure TrS where
  C : Cls
  F : List Int
  U : List Int
  E : Bool
def fixS (s : TrS) (n : Int) : TrS := { s with F := s.F ++ [n], C := fixC s.C n }
def stepS (vars : Nat) (s : TrS) : Option TrS :=
  match twiceC s.C with
  | some C => some { s with C := C }
  | none => match alwaysC s.C with
    | some C => some { s with C := C }
    | none => if emptyB s.C then some { s with C := [[]], E := true } else
      match unitC s.C with
      | some n => some { fixS s n with U := s.U ++ [n] }
      | none => match pureC vars s.C with
        | some n => some (fixS s n)
        | none => match coverC s.C with
          | some C => some { s with C := C }
          | none => none
/-- What comes of steps. -/
inductive Steps (vars : Nat) : TrS → TrS → Prop
  | refl (s : TrS) : Steps vars s s
  | head {s a t : TrS} : s.E = false → stepS vars s = some a → Steps vars a t → Steps vars s t
def Stop (vars : Nat) (s : TrS) : Prop := s.E = true ∨ stepS vars s = none
def RunTo (vars : Nat) (s t : TrS) : Prop := Steps vars s t ∧ Stop vars t
theorem Steps.snoc {vars : Nat} {s a b : TrS} (h : Steps vars s a) (h1 : a.E = false) (h2 : stepS vars a = some b) : Steps vars s b := by
  induction h with
  | refl s => exact .head h1 h2 (.refl _)
  | head g1 g2 _ ih => exact .head g1 g2 (ih h1 h2)
theorem RunTo.unique {vars : Nat} {s t u : TrS} (h : RunTo vars s t) (k : RunTo vars s u) : t = u := by
  obtain ⟨h, ht⟩ := h
  obtain ⟨k, hu⟩ := k
  induction h with
  | refl s =>
    cases k with
    | refl => rfl
    | head g1 g2 _ =>
      rcases ht with e | e
      · rw [e] at g1; cases g1
      · rw [e] at g2; cases g2
  | head h1 h2 _ ih =>
    cases k with
    | refl =>
      rcases hu with e | e
      · rw [e] at h1; cases h1
      · rw [e] at h2; cases h2
    | head g1 g2 k => rw [h2] at g2; cases g2; exact ih ht k

/-! ### Sizes -/
def litOk (vars : Nat) (n : Int) : Prop := n ≠ 0 ∧ -(vars : Int) ≤ n ∧ n ≤ vars
def clOk (vars : Nat) (c : List Int) : Prop := c.length ≤ 2048 ∧ ∀ x ∈ c, litOk vars x
def clsOk (vars : Nat) (C : Cls) : Prop := ∀ c ∈ C, clOk vars c
def TrOk (vars n0 : Nat) (s : TrS) : Prop := clsOk vars s.C ∧ s.F.length + s.C.length ≤ n0 ∧ s.U.length ≤ s.F.length
def sizeC (C : Cls) : Nat := (C.map fun c => c.length + 1).sum
def sizeS (s : TrS) : Nat := sizeC s.C + if s.E then 0 else 1
theorem atC_mem {C : Cls} {i : Nat} (h : i < C.length) : atC C i ∈ C := by rw [atC_eq h]; exact List.getElem_mem h
theorem atC_ge {C : Cls} {i : Nat} (h : C.length ≤ i) : atC C i = [] := by simp [atC, List.getD, h]
theorem dupK_some {c : List Int} {k : Nat} (h : dupK c = some k) : k < c.length ∧ c.getD k 0 ∈ c.take k := by
  obtain ⟨j, hj, h1, _⟩ := firstN_some h
  unfold dupAt at h1
  split at h1
  · next hb => cases h1; exact ⟨hj, hasB_iff.1 hb⟩
  · cases h1
theorem twiceC_some {C D : Cls} (h : twiceC C = some D) : ∃ i k, i < C.length ∧ dupK (atC C i) = some k ∧ D = C.set i ((atC C i).eraseIdx k) := by
  obtain ⟨i, hi, h1, _⟩ := firstN_some h
  unfold twAt at h1
  cases hd : dupK (atC C i) with
  | none => rw [hd] at h1; cases h1
  | some k => rw [hd] at h1; cases h1; exact ⟨i, k, hi, hd, rfl⟩
theorem alwaysC_some {C D : Cls} (h : alwaysC C = some D) : ∃ i, i < C.length ∧ alwaysB (atC C i) = true ∧ D = C.eraseIdx i := by
  obtain ⟨i, hi, h1, _⟩ := firstN_some h
  unfold alAt at h1
  split at h1
  · next hb => cases h1; exact ⟨i, hi, hb, rfl⟩
  · cases h1
theorem unitC_some {C : Cls} {n : Int} (h : unitC C = some n) : ∃ i, i < C.length ∧ atC C i = [n] := by
  obtain ⟨i, hi, h1, _⟩ := firstN_some h
  unfold unAt at h1
  split at h1
  · next hb =>
    cases h1
    obtain ⟨a, ha⟩ := List.length_eq_one_iff.1 hb
    exact ⟨i, hi, by rw [ha]; rfl⟩
  · cases h1
theorem posB_iff {C : Cls} {v : Int} : posB C v = true ↔ ∃ c ∈ C, v ∈ c := by simp [posB, hasB_iff]
theorem pureC_some {vars : Nat} {C : Cls} {n : Int} (h : pureC vars C = some n) : n.natAbs ≤ vars ∧ posB C n = true ∧ posB C (-n) = false := by
  obtain ⟨v, hv, h1, _⟩ := firstN_some h
  unfold puAt at h1
  split at h1
  · next hb => cases h1; simp at hb; exact ⟨by omega, hb.1, hb.2⟩
  · split at h1
    · next hb => cases h1; simp at hb; exact ⟨by omega, hb.1, by simpa using hb.2⟩
    · cases h1
theorem coverC_some {C D : Cls} (h : coverC C = some D) : ∃ i k, i < C.length ∧ k < C.length ∧ cvB C i k = true ∧ D = C.eraseIdx k := by
  obtain ⟨i, hi, h1, _⟩ := firstN_some h
  obtain ⟨k, hk, h2, _⟩ := firstN_some h1
  split at h2
  · next hb => cases h2; exact ⟨i, k, hi, hk, hb, rfl⟩
  · cases h2
theorem emptyB_iff {C : Cls} : emptyB C = true ↔ [] ∈ C := by
  simp [emptyB]
/-- What a step can be. -/
inductive Way (vars : Nat) (s : TrS) : TrS → Prop
  | twice (i k : Nat) : i < s.C.length → dupK (atC s.C i) = some k → Way vars s { s with C := s.C.set i ((atC s.C i).eraseIdx k) }
  | always (i : Nat) : i < s.C.length → alwaysB (atC s.C i) = true → Way vars s { s with C := s.C.eraseIdx i }
  | empty : [] ∈ s.C → Way vars s { s with C := [[]], E := true }
  | unit (n : Int) : [n] ∈ s.C → Way vars s { fixS s n with U := s.U ++ [n] }
  | pure (n : Int) : n.natAbs ≤ vars → posB s.C n = true → posB s.C (-n) = false → Way vars s (fixS s n)
  | cover (i k : Nat) : i < s.C.length → k < s.C.length → cvB s.C i k = true → Way vars s { s with C := s.C.eraseIdx k }
theorem way_of {vars : Nat} {s t : TrS} (h : stepS vars s = some t) : Way vars s t := by
  unfold stepS at h
  split at h
  · next C hC => cases h; obtain ⟨i, k, h1, h2, rfl⟩ := twiceC_some hC; exact .twice i k h1 h2
  split at h
  · next C hC => cases h; obtain ⟨i, h1, h2, rfl⟩ := alwaysC_some hC; exact .always i h1 h2
  split at h
  · next he => cases h; exact .empty (emptyB_iff.1 he)
  split at h
  · next n hn => cases h; obtain ⟨i, h1, h2⟩ := unitC_some hn; exact .unit n (h2 ▸ atC_mem h1)
  split at h
  · next n hn => cases h; obtain ⟨h1, h2, h3⟩ := pureC_some hn; exact .pure n h1 h2 h3
  split at h
  · next C hC => cases h; obtain ⟨i, k, h1, h2, h3, rfl⟩ := coverC_some hC; exact .cover i k h1 h2 h3
  · cases h
theorem sizeC_set {C : Cls} {i : Nat} {c : List Int} : ∀ (_ : i < C.length), sizeC (C.set i c) + ((atC C i).length + 1) = sizeC C + (c.length + 1) := by
  induction C generalizing i with
  | nil => intro h; simp at h
  | cons x r ih =>
    intro h
    cases i with
    | zero => simp [sizeC, atC]; omega
    | succ i =>
      have := ih (i := i) (by simpa using h)
      simp only [sizeC, List.set_cons_succ, List.map_cons, List.sum_cons] at this ⊢
      have e : atC (x :: r) (i + 1) = atC r i := by simp [atC]
      rw [e]; omega
theorem sizeC_erase {C : Cls} {i : Nat} : ∀ (_ : i < C.length), sizeC (C.eraseIdx i) + ((atC C i).length + 1) = sizeC C := by
  induction C generalizing i with
  | nil => intro h; simp at h
  | cons x r ih =>
    intro h
    cases i with
    | zero => simp [sizeC, atC]; omega
    | succ i =>
      have := ih (i := i) (by simpa using h)
      simp only [sizeC, List.eraseIdx_cons_succ, List.map_cons, List.sum_cons] at this ⊢
      have e : atC (x :: r) (i + 1) = atC r i := by simp [atC]
      rw [e]; omega
theorem sizeC_fix {C : Cls} {n : Int} : sizeC (fixC C n) ≤ sizeC C := by
  induction C with
  | nil => simp [fixC]
  | cons x r ih =>
    simp only [fixC, sizeC, List.filter_cons] at ih ⊢
    have := List.length_filter_le (fun k => !(k == -n)) x
    split <;> simp only [List.map_cons, List.sum_cons] <;> omega
theorem sizeC_fix_lt {C : Cls} {n : Int} : posB C n = true → sizeC (fixC C n) < sizeC C ∧ (fixC C n).length < C.length := by
  induction C with
  | nil => simp [posB]
  | cons x r ih =>
    intro h
    have hl := List.length_filter_le (fun k => !(k == -n)) x
    cases hx : hasB x n with
    | true =>
      have h1 := sizeC_fix (C := r) (n := n)
      have h2 : (fixC r n).length ≤ r.length := by simp only [fixC, List.length_map]; exact List.length_filter_le _ _
      have e : fixC (x :: r) n = fixC r n := by simp [fixC, hx]
      rw [e]
      simp only [sizeC, List.map_cons, List.sum_cons, List.length_cons] at h1 ⊢
      omega
    | false =>
      have h' : posB r n = true := by simpa [posB, hx] using h
      obtain ⟨h1, h2⟩ := ih h'
      have e : fixC (x :: r) n = x.filter (fun k => !(k == -n)) :: fixC r n := by simp [fixC, hx]
      rw [e]
      simp only [sizeC, List.map_cons, List.sum_cons, List.length_cons] at h1 ⊢
      omega
theorem sizeC_pos {C : Cls} (h : [] ∈ C) : 1 ≤ sizeC C := by
  induction C with
  | nil => simp at h
  | cons x r ih => simp [sizeC]; omega
/-- Each step makes it smaller. -/
theorem Way.less {vars : Nat} {s t : TrS} (h : Way vars s t) (he : s.E = false) : sizeS t < sizeS s := by
  unfold sizeS
  cases h with
  | twice i k h1 h2 =>
    have := sizeC_set (c := (atC s.C i).eraseIdx k) h1
    have hk := (dupK_some h2).1
    have hl : ((atC s.C i).eraseIdx k).length = (atC s.C i).length - 1 := List.length_eraseIdx_of_lt hk
    simp only [he]; omega
  | always i h1 h2 => have := sizeC_erase h1; simp only [he]; omega
  | empty h1 => have := sizeC_pos h1; simp [he, sizeC]; simp [sizeC] at this; omega
  | unit n h1 => have := sizeC_fix_lt ((posB_iff (v := n)).2 ⟨_, h1, by simp⟩); simp only [he, fixS]; omega
  | pure n h1 h2 h3 => have := sizeC_fix_lt h2; simp only [he, fixS]; omega
  | cover i k h1 h2 h3 => have := sizeC_erase h2; simp only [he]; omega
theorem clsOk_fix {vars : Nat} {C : Cls} {n : Int} (h : clsOk vars C) : clsOk vars (fixC C n) := by
  intro c hc
  simp only [fixC, List.mem_map, List.mem_filter] at hc
  obtain ⟨d, ⟨hd, _⟩, rfl⟩ := hc
  obtain ⟨h1, h2⟩ := h d hd
  exact ⟨Nat.le_trans (List.length_filter_le _ _) h1, fun x hx => h2 x (List.mem_filter.1 hx).1⟩
theorem Way.ok {vars n0 : Nat} {s t : TrS} (h : Way vars s t) (hs : TrOk vars n0 s) : TrOk vars n0 t := by
  obtain ⟨h1, h2, h3⟩ := hs
  cases h with
  | twice i k g1 g2 =>
    refine ⟨fun c hc => ?_, by simpa using h2, h3⟩
    rcases List.mem_or_eq_of_mem_set hc with hc | rfl
    · exact h1 c hc
    · obtain ⟨a, b⟩ := h1 _ (atC_mem g1)
      exact ⟨Nat.le_trans (List.length_eraseIdx_le _ _) a, fun x hx => b x (List.mem_of_mem_eraseIdx hx)⟩
  | always i g1 g2 =>
    refine ⟨fun c hc => h1 c (List.mem_of_mem_eraseIdx hc), ?_, h3⟩
    have := List.length_eraseIdx_le s.C i
    simp only; omega
  | empty g1 =>
    refine ⟨fun c hc => ?_, ?_, h3⟩
    · simp at hc; subst hc; exact h1 _ g1
    · have : 0 < s.C.length := List.length_pos_of_mem g1
      simp; omega
  | unit n g1 =>
    have g := sizeC_fix_lt ((posB_iff (v := n)).2 ⟨_, g1, by simp⟩)
    exact ⟨clsOk_fix h1, by simp [fixS]; omega, by simp [fixS]; omega⟩
  | pure n g1 g2 g3 =>
    have g := sizeC_fix_lt g2
    exact ⟨clsOk_fix h1, by simp [fixS]; omega, by simp [fixS]; omega⟩
  | cover i k g1 g2 g3 =>
    refine ⟨fun c hc => h1 c (List.mem_of_mem_eraseIdx hc), ?_, h3⟩
    have := List.length_eraseIdx_le s.C k
    simp only; omega
theorem Steps.ok {vars n0 : Nat} {s t : TrS} (h : Steps vars s t) (hs : TrOk vars n0 s) : TrOk vars n0 t := by
  induction h with
  | refl => exact hs
  | head h1 h2 _ ih => exact ih ((way_of h2).ok hs)
end Go.Proofs.Ytdofiipckcfopaa

namespace Go.Proofs.Ytdofiipckcfopaa
open Go.RowKit

set_option maxHeartbeats 400000 in
theorem IndexFunc_any (f : FuncId) (cap : Value) (p : Int → Bool) (s : Value) (l : List Int) (w : World) {B : Nat} (hs : RInts w (Lt B) s l)
    (hcf : ∀ (args : Array Value) (w : World), (callFunc f args).run Try.prog w = .ok (.enter f args) w)
    (hf : ∀ x, Calls Try.prog f #[.int .i64 x, cap] w fun e w' => e = .returned (.bool (p x)) ∧ w = w') :
    Calls Try.prog 82 #[s, .func (.func f) #[] #[cap]] w fun e w' => e = .returned (.int .i64 (idxFn p l)) ∧ w = w' := by
  obtain ⟨A, c, rfl, hm, hat⟩ := hs.open_
  have Hat := Lib.hid hat; clear hat
  have Hf := Lib.hid hf; clear hf
  go_enter Try.func82, Try.ntmps82
  go_wp2
  go_loop [8] (fun sv => ∃ k : Nat, k ≤ (l).length ∧ sv = .int .i64 k ∧ Hid ((l.take k).any p = false)) (fun sv => (l).length - (intOf sv).toNat)
  case atStart => exact ⟨0, Nat.zero_le _, rfl, hid_nil_any _ _⟩
  case round =>
    obtain ⟨k, hkle, rfl, hkinv⟩ := hrel
    by_cases hklt : k < (l).length
    · obtain ⟨bk, offk, uk, rfl, hbk, hcellk, huk⟩ := Hat.out.lt_ hklt
      obtain rfl := huk
      cases hx : p l[k] with
      | true =>
        have Hi := Lib.hid (findIdx_some_of (p := p) hklt hkinv hx)
        have Hx := Lib.hid hx; clear hx
        go_wp2_with fail
        refine (Hf.out _).mono ?_
        rintro e w1 ⟨rfl, rfl⟩
        rw [Hx.out]
        go_wp2
        go_ret
        exact ⟨ret_int (by rw [idxFn, Hi.out]), rfl⟩
      | false =>
        have Hx := Lib.hid hx; clear hx
        go_wp2_with fail
        refine (Hf.out _).mono ?_
        rintro e w1 ⟨rfl, rfl⟩
        rw [Hx.out]
        go_wp2
        go_round
        case rel => exact ⟨k + 1, by omega, by go_num, hid_any_succ hklt hkinv Hx.out⟩
        case measure => simp [intOf]; omega
    · obtain rfl : k = (l).length := by omega
      go_wp2
      go_ret
      exact ⟨ret_int (by rw [idxFn, findIdx_none_of hkinv]), rfl⟩
set_option maxHeartbeats 400000 in
theorem ContainsFunc_any (f : FuncId) (cap : Value) (p : Int → Bool) (s : Value) (l : List Int) (w : World) {B : Nat} (hs : RInts w (Lt B) s l)
    (hcf : ∀ (args : Array Value) (w : World), (callFunc f args).run Try.prog w = .ok (.enter f args) w)
    (hf : ∀ x, Calls Try.prog f #[.int .i64 x, cap] w fun e w' => e = .returned (.bool (p x)) ∧ w = w') :
    Calls Try.prog 74 #[s, .func (.func f) #[] #[cap]] w fun e w' => e = .returned (.bool (l.any p)) ∧ w = w' := by
  have Hn := Lib.hid (idxFn_nonneg p l)
  have Hs := Lib.hid hs
  have Hf := Lib.hid hf
  clear hs hf
  go_enter Try.func74, Try.ntmps74
  go_wp2_with (go_at_call 82; refine (IndexFunc_any _ _ p _ l _ Hs.out hcf Hf.out).mono ?_; rintro e w1 ⟨rfl, rfl⟩)
  go_ret
  exact ⟨ret_bool Hn.out, rfl⟩
end Go.Proofs.Ytdofiipckcfopaa

namespace Go.Proofs.Ytdofiipckcfopaa
open Go.RowKit

/-- The row while it is gone through: i numbers are kept, j were looked at. -/
structure Mid (l : List Int) (p : Int → Bool) (i j : Nat) (xs : List Int) : Prop where
  len : xs.length = l.length
  kept : xs.take i = (l.take j).filter fun x => !p x
  rest : xs.drop j = l.drop j
  le : i ≤ j
  jl : j ≤ l.length
theorem Mid.at_ {l : List Int} {p : Int → Bool} {i j : Nat} {xs : List Int} (h : Mid l p i j xs) (hj : j < l.length) : xs[j]? = some l[j] := by
  have := congrArg (fun r => r[0]?) h.rest
  simpa [List.getElem?_drop, List.getElem?_eq_getElem hj] using this
theorem Mid.skip {l : List Int} {p : Int → Bool} {i j : Nat} {xs : List Int} (h : Mid l p i j xs) (hj : j < l.length) (hp : p l[j] = true) : Mid l p i (j + 1) xs := by
  refine ⟨h.len, ?_, ?_, by have := h.le; omega, by omega⟩
  · rw [h.kept, List.take_succ_eq_append_getElem hj, List.filter_append]; simp [hp]
  · have := congrArg (List.drop 1) h.rest
    simpa [List.drop_drop] using this
theorem Mid.keep {l : List Int} {p : Int → Bool} {i j : Nat} {xs : List Int} (h : Mid l p i j xs) (hj : j < l.length) (hp : p l[j] = false) : Mid l p (i + 1) (j + 1) (xs.set i l[j]) := by
  have hle := h.le
  have hl := h.len
  refine ⟨by simp [h.len], ?_, ?_, by omega, by omega⟩
  · rw [List.take_succ_eq_append_getElem (by simp; omega), List.take_set_of_le (Nat.le_refl _), h.kept, List.take_succ_eq_append_getElem hj, List.filter_append]
    simp [hp]
  · rw [List.drop_set_of_lt (by omega)]
    have := congrArg (List.drop 1) h.rest
    simpa [List.drop_drop] using this
theorem Mid.start {l : List Int} {p : Int → Bool} {k : Nat} (hk : k < l.length) (hn : Hid ((l.take k).any p = false)) (hp : p l[k] = true) : Mid l p k (k + 1) l := by
  refine ⟨rfl, ?_, rfl, by omega, by omega⟩
  rw [List.take_succ_eq_append_getElem hk, List.filter_append]
  have := List.any_eq_false.1 hn.out
  rw [List.filter_eq_self.2 (fun x hx => by simpa using this x hx)]
  simp [hp]
theorem Mid.done {l : List Int} {p : Int → Bool} {i : Nat} {xs : List Int} (h : Mid l p i l.length xs) : xs.take i = l.filter fun x => !p x := by
  have := h.kept
  rwa [List.take_length] at this
theorem idxFn_some {p : Int → Bool} {l : List Int} (h : idxFn p l ≠ -1) : ∃ k : Nat, idxFn p l = (k : Int) ∧ ∃ hk : k < l.length, Hid ((l.take k).any p = false) ∧ p l[k] = true := by
  unfold idxFn at h ⊢
  cases hf : l.findIdx? p with
  | none => rw [hf] at h; exact absurd rfl h
  | some k =>
    obtain ⟨hk, hp, hn⟩ := List.findIdx?_eq_some_iff_getElem.1 hf
    refine ⟨k, rfl, hk, ?_, hp⟩
    rw [Hid, List.any_eq_false]
    intro x hx
    obtain ⟨j, hj, rfl⟩ := List.mem_take_iff_getElem.1 hx
    exact hn j (by omega)
theorem idxFn_none {p : Int → Bool} {l : List Int} (h : idxFn p l = -1) : (l.filter fun x => !p x) = l := by
  refine List.filter_eq_self.2 fun x hx => ?_
  have h1 := idxFn_nonneg p l
  rw [h] at h1
  have := List.any_eq_false.1 h1.symm x hx
  simpa using this
def DelFPost (base : Nat) (v : Value) (l : List Int) (p : Int → Bool) (w : World) (e : Ending) (w' : World) : Prop :=
  ∃ v', e = .returned v' ∧ w'.ownsRow base 3 1 v' (l.filter fun x => !p x).length ((l.filter fun x => !p x).map (Value.int .i64)) ∧ v'.ownBlock = v.ownBlock ∧ w.grownBy w' v.ownBlock
theorem own_cut {w : World} {base g cap n m : Nat} {t : TypeId} {xs : List Value} (h : w.ownsRow base t 1 (.slice (some ⟨g, 0, none⟩) n cap) n xs) (hm : m ≤ n) : w.ownsRow base t 1 (.slice (some ⟨g, 0, none⟩) m cap) m (xs.take m) := by
  have hxl : xs.length = n := by simpa using h.1
  obtain ⟨_, ⟨h, _⟩ | ⟨g', cap', cur, h, hbg, hh, hnc, hcm, hsz, htk⟩⟩ := h
  · cases h
  cases h
  refine ⟨by simp; omega, .inr ⟨g, cap, cur, rfl, hbg, hh, by omega, hcm, hsz, ?_⟩⟩
  rw [← htk, List.take_take]
  congr 1
  omega
theorem own_ints {w : World} {base : Nat} {v : Value} {l : List Int} (h : w.ownsRow base 3 1 v l.length (l.map (Value.int .i64))) : RInts w (Lt w.heap.size) v l := ints_of_own h fun g hg => (h.lt g hg).2
/-- A row of the call's own, read at its block. -/
theorem own_at {w : World} {base g cap n : Nat} {t : TypeId} {xs : List Value} (h : w.ownsRow base t 1 (.slice (some ⟨g, 0, none⟩) n cap) n xs) (j : Nat) : (j < n → w.cell? ⟨g, j, none⟩ = xs[j]?) ∧ w.frozen? ⟨g, j, none⟩ = false :=
  ⟨fun hj => h.cellAt j (by omega), h.frozenAt j⟩
theorem own_set {w : World} {base g cap n : Nat} {t : TypeId} {xs : List Value} (h : w.ownsRow base t 1 (.slice (some ⟨g, 0, none⟩) n cap) n xs) (j : Nat) (u : Value) : (w.setCell ⟨g, j, none⟩ u).ownsRow base t 1 (.slice (some ⟨g, 0, none⟩) n cap) n (xs.set j u) := by
  have hxl : xs.length = n := by simpa using h.1
  obtain ⟨_, ⟨h, _⟩ | ⟨g', cap', cur, h, hbg, hh, hnc, hcm, hsz, htk⟩⟩ := h
  · cases h
  cases h
  refine ⟨by simp; omega, .inr ⟨g, cap, _, rfl, hbg, heap_setCell_same w g j cur t u hh, hnc, hcm, by simpa using hsz, ?_⟩⟩
  rw [← htk, Array.toList_setIfInBounds, List.take_set]

theorem own_cleared {w : World} {base g cap n m : Nat} {t : TypeId} {xs vs : List Value} (h : w.ownsRow base t 1 (.slice (some ⟨g, 0, none⟩) n cap) n xs) (hm : m ≤ n) (hv : m + vs.length ≤ n) : (w.setCells g m vs).ownsRow base t 1 (.slice (some ⟨g, 0, none⟩) m cap) m (xs.take m) := by
  have hxl : xs.length = n := by simpa using h.1
  obtain ⟨_, ⟨h, _⟩ | ⟨g', cap', cur, h, hbg, hh, hnc, hcm, hsz, htk⟩⟩ := h
  · cases h
  cases h
  refine ⟨by simp; omega, .inr ⟨g, cap, _, rfl, hbg, heap_setCells g _ _ _ _ cur hh, by omega, hcm, by rw [Go.Lib.lay_size]; exact hsz, ?_⟩⟩
  rw [← htk, List.take_take]
  apply List.ext_getElem?
  intro j
  rw [List.getElem?_take, List.getElem?_take]
  by_cases hj : j < m
  · rw [if_pos (by omega), if_pos (by omega), Array.getElem?_toList, Array.getElem?_toList, Go.Lib.lay_get? _ _ _ _ (by omega), if_neg (by omega)]
  · rw [if_neg (by omega), if_neg (by omega)]

set_option maxRecDepth 100000 in
set_option maxHeartbeats 4000000 in
theorem DeleteFunc_any (f : FuncId) (b : Nat) (p : Int → Bool) (base : Nat) (v : Value) (l : List Int) (w : World) (hown : w.ownsRow base 3 1 v l.length (l.map (Value.int .i64))) (hlen : l.length ≤ 1000000) (hbw : b < w.heap.size) (hbs : v.ownBlock = none ∨ v.ownBlock ≠ some b)
    (hcf : ∀ (args : Array Value) (w : World), (callFunc f args).run Try.prog w = .ok (.enter f args) w)
    (hf : ∀ w' : World, w'.cell? ⟨b, 0, none⟩ = w.cell? ⟨b, 0, none⟩ → ∀ x, Calls Try.prog f #[.int .i64 x, .pointer (some ⟨b, 0, none⟩)] w' fun e w'' => e = .returned (.bool (p x)) ∧ w' = w'') :
    Calls Try.prog 77 #[v, .func (.func f) #[] #[.pointer (some ⟨b, 0, none⟩)]] w (DelFPost base v l p w) := by
  have Hr := Lib.hid (own_ints hown)
  have Hown := Lib.hid hown
  obtain ⟨A, k, rfl⟩ := own_shape hown
  clear hown
  have Hf0 := Lib.hid (hf w rfl)
  by_cases hi : idxFn p l = -1
  · have Hi := Lib.hid hi; clear hi
    go_enter Try.func77, Try.ntmps77
    go_wp2_with (go_at_call 82; refine (IndexFunc_any _ _ p _ l _ Hr.out hcf Hf0.out).mono ?_; rintro e w1 ⟨rfl, rfl⟩; rw [Hi.out])
    go_ret
    exact ⟨_, rfl, by rw [idxFn_none Hi.out]; exact Hown.out, rfl, ⟨rfl, rfl, rfl, Nat.le_refl _, fun _ _ _ => rfl⟩⟩
  obtain ⟨q, hq, hql, hqn, hqp⟩ := idxFn_some hi
  obtain ⟨g, rfl⟩ : ∃ g, A = some ⟨g, 0, none⟩ := by
    rcases Hown.out.2 with ⟨e, h0⟩ | ⟨g, cap, cur, e, _⟩
    · exact absurd h0 (by omega)
    · cases e; exact ⟨g, rfl⟩
  have hgb : g ≠ b := by
    rcases hbs with h | h
    · simp [Value.ownBlock] at h
    · simpa [Value.ownBlock] using h
  have Hq := Lib.hid hq
  have Hm0 := Lib.hid (Mid.start hql hqn hqp)
  have Hcf := Lib.hid hcf; have Hf := Lib.hid hf
  have hne : ((q : Int) == -1) = false := by simp
  clear hi hq hqn hqp hf hbs
  go_enter Try.func77, Try.ntmps77
  go_wp2_with (go_at_call 82; refine (IndexFunc_any _ _ p _ l _ Hr.out Hcf.out Hf0.out).mono ?_; rintro e w1 ⟨rfl, rfl⟩; rw [Hq.out])
  go_loopw [6, 5] (fun jv iv wr => ∃ i j xs, jv = .int .i64 (j : Nat) ∧ iv = .int .i64 (i : Nat) ∧ Mid l p i j xs ∧ i < j ∧ wr.ownsRow base 3 1 (.slice (some ⟨g, 0, none⟩) l.length k) l.length (xs.map (Value.int .i64)) ∧ w.grownBy wr (some g)) (fun jv _ _ => l.length - (intOf jv).toNat)
  case atStart => exact ⟨q, q + 1, l, by go_num, rfl, Hm0.out, by omega, Hown.out, ⟨rfl, rfl, rfl, Nat.le_refl _, fun _ _ _ => rfl⟩⟩
  case round =>
    obtain ⟨i, j, xs, rfl, rfl, hmid, hij, hown, hgr⟩ := hrel
    have hjl := hmid.jl
    have Hmid := Lib.hid hmid; have Hown1 := Lib.hid hown; have Hgr := Lib.hid hgr
    clear hmid hown hgr
    by_cases hjlt : j < l.length
    · have hcj : wr.cell? ⟨g, j, none⟩ = some (.int .i64 l[j]) := by
        rw [(own_at Hown1.out j).1 hjlt, List.getElem?_map, Hmid.out.at_ hjlt, Option.map_some]
      have hci : wr.cell? ⟨g, i, none⟩ = some (.int .i64 (xs[i]'(by have := Hmid.out.len; omega))) := by
        rw [(own_at Hown1.out i).1 (by omega), List.getElem?_map, List.getElem?_eq_getElem]; rfl
      have hfi := (own_at Hown1.out i).2
      have hcb : wr.cell? ⟨b, 0, none⟩ = w.cell? ⟨b, 0, none⟩ := by
        exact World.cell?_of_block (w := w) (Hgr.out.block b hbw (by simp; omega))
      have Hfw := Lib.hid (Hf.out wr hcb)
      clear hcb
      cases hx : p l[j] with
      | true =>
        have Hx := Lib.hid hx; clear hx
        go_wp2_with fail
        refine (Hfw.out _).mono ?_
        rintro e w1 ⟨rfl, rfl⟩
        rw [Hx.out]
        go_wp2
        go_roundw
        case rel => exact ⟨i, j + 1, xs, by go_num, rfl, Hmid.out.skip hjlt Hx.out, by omega, Hown1.out, Hgr.out⟩
        case measure => simp [intOf]; omega
      | false =>
        have Hx := Lib.hid hx; clear hx
        go_wp2_with fail
        refine (Hfw.out _).mono ?_
        rintro e w1 ⟨rfl, rfl⟩
        rw [Hx.out]
        go_wp2
        go_roundw
        case rel => exact ⟨i + 1, j + 1, xs.set i l[j], by go_num, by go_num, Hmid.out.keep hjlt Hx.out, by omega, by rw [List.map_set]; exact own_set Hown1.out i _, Hgr.out.trans ⟨rfl, rfl, rfl, by simp, fun k _ hk => Below.heap_setCell _ _ _ _ (fun e => hk (by simp [e]))⟩⟩
        case measure => simp [intOf]; omega
    · obtain rfl : j = l.length := by omega
      have hci := (own_at Hown1.out i).1 (by omega)
      have hxl := Hmid.out.len
      have hcl : ∀ ty, (Builtin.clear_ #[27] ty #[.slice (some ⟨g, i, none⟩) (l.length - i) (k - i)]).run Try.prog wr = .ok (.tuple #[]) (wr.setCells g i (List.replicate (l.length - i) (.int .i64 0))) :=
        fun ty => Go.Lib.run_clear_slice wr _ 3 ty (.int .i64 0) Try.underlying27 (fun _ => by kernel_rfl) rfl rfl g i (l.length - i) _ (by omega) (fun t ht => by rw [(own_at Hown1.out (i + t)).1 (by omega), List.getElem?_map, List.getElem?_eq_getElem (by omega)]; rfl) (fun t ht => (own_at Hown1.out (i + t)).2)
      clear hci
      have hkl : l.length ≤ k := by
        obtain ⟨_, ⟨h, _⟩ | ⟨g', cap', cur, h, hbg, hh, hnc, _⟩⟩ := Hown1.out
        · cases h
        · cases h; exact hnc
      go_wp2
      go_ret
      have hd := Hmid.out.done
      have hil : (l.filter fun x => !p x).length = i := by rw [← hd]; simp; omega
      refine ⟨_, rfl, ?_, rfl, Hgr.out.trans (setCells_grown _ _ _ _)⟩
      rw [hil, ← hd, List.map_take]
      exact own_cleared Hown1.out (by omega) (by simp; omega)
end Go.Proofs.Ytdofiipckcfopaa

namespace Go.Proofs.Ytdofiipckcfopaa
open Go.RowKit

set_option maxHeartbeats 400000 in
theorem Index_any (s : Value) (x : Int) (l : List Int) (w : World) {B : Nat} (hs : RInts w (Lt B) s l) :
    Calls Try.prog 81 #[s, .int .i64 x] w fun e w' => e = .returned (.int .i64 (idxI l x)) ∧ w = w' := by
  obtain ⟨A, c, rfl, hm, hat⟩ := hs.open_
  have Hat := Lib.hid hat; clear hat
  go_enter Try.func81, Try.ntmps81
  go_wp2
  go_loop [8] (fun sv => ∃ k : Nat, k ≤ (l).length ∧ sv = .int .i64 k ∧ Hid ((l.take k).any (fun y => y == x) = false)) (fun sv => (l).length - (intOf sv).toNat)
  case atStart => exact ⟨0, Nat.zero_le _, rfl, hid_nil_any _ _⟩
  case round =>
    obtain ⟨k, hkle, rfl, hkinv⟩ := hrel
    by_cases hklt : k < (l).length
    · obtain ⟨bk, offk, uk, rfl, hbk, hcellk, huk⟩ := Hat.out.lt_ hklt
      obtain rfl := huk
      by_cases hx : l[k] = x
      · have Hi := Lib.hid (findIdx_some_of (p := fun y => y == x) hklt hkinv (by simp [hx]))
        have hx1 : (x == l[k]) = true := by simp [hx]
        clear hx
        go_wp2
        go_ret
        exact ⟨ret_int (by rw [idxI, Hi.out]), rfl⟩
      · have hx1 : (x == l[k]) = false := by simp; exact fun h => hx h.symm
        have Hx2 := Lib.hid (show (l[k] == x) = false by simp [hx])
        clear hx
        go_wp2
        go_round
        case rel => exact ⟨k + 1, by omega, by go_num, hid_any_succ hklt hkinv Hx2.out⟩
        case measure => simp [intOf]; omega
    · obtain rfl : k = (l).length := by omega
      go_wp2
      go_ret
      exact ⟨ret_int (by rw [idxI, findIdx_none_of hkinv]), rfl⟩
set_option maxHeartbeats 400000 in
theorem Contains_any (s : Value) (x : Int) (l : List Int) (w : World) {B : Nat} (hs : RInts w (Lt B) s l) :
    Calls Try.prog 73 #[s, .int .i64 x] w fun e w' => e = .returned (.bool (hasB l x)) ∧ w = w' := by
  have Hn := Lib.hid (idxI_nonneg l x)
  have Hs := Lib.hid hs
  clear hs
  go_enter Try.func73, Try.ntmps73
  go_wp2_with (go_at_call 81; refine (Index_any _ _ l _ Hs.out).mono ?_; rintro e w1 ⟨rfl, rfl⟩)
  go_ret
  exact ⟨ret_bool Hn.out, rfl⟩
end Go.Proofs.Ytdofiipckcfopaa
