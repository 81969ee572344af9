/- dimacs.Parse, where the text is right. -/
import Derived.Test.YtgfbmidpiamkhaaDoorQDiW10
namespace Go.Proofs.YtgfbmidpiamkhaaDoor
open Go.RowKit
open C01 D28

theorem Q1Post.en {qb : Nat} {vars : Int} {out : List (List Int)} {w w' : World} {e : Ending} {a b : Nat} (h : Q1Post qb vars out w e w') (hE : EN w a b 0 0) (ha : a < w.heap.size) (hb : b < w.heap.size) (hqa : a ≠ qb) (hqb : b ≠ qb) : EN w' a b 0 0 := hE.kp h.2.1 ⟨ha, hqa⟩ ⟨hb, hqb⟩
/-- behind the closure -/
structure PQA (w0 w : World) (qb : Nat) (vars : Int) (out : List (List Int)) (w' : World) : Prop where
  below : Below w0.heap.size w0 w'
  size : w.heap.size + 2 ≤ w'.heap.size
  q : ∃ v, w'.heap[qb]? = some (.cells #[.int .i64 vars, v] 24 (0, 0)) ∧ RIntss w' (fun b => w.heap.size + 2 ≤ b ∧ b < w'.heap.size) v out
theorem PQA.after {w0 w w2 w' : World} {qb : Nat} {vars : Int} {out : List (List Int)} (h : PQA w0 w qb vars out w2) (hk : Kp (nAB w.heap.size (w.heap.size + 1)) w2 w') (hq : qb < w.heap.size) (h0 : w0.heap.size ≤ w.heap.size) : PQA w0 w qb vars out w' := by
  have hsz := h.size
  have h1 : Below w.heap.size w2 w' := hk.below (by omega) fun b o hb _ => ⟨by omega, by omega⟩
  obtain ⟨v, h2, h3⟩ := h.q
  refine ⟨h.below.trans (h1.mono h0), Nat.le_trans hsz hk.size, v, (h1.block qb hq).trans h2, ?_⟩
  refine RIntss.stable _ _ _ _ _ _ h3 (fun b hb => ?_) fun b hb => ⟨hb.1, Nat.lt_of_lt_of_le hb.2 hk.size⟩
  have e : w2.heap[b]? = some (w2.heap[b]'hb.2) := Array.getElem?_eq_getElem hb.2
  exact (hk.same b _ e ⟨by have := hb.1; omega, by have := hb.1; omega⟩).trans e.symm
theorem guardQ {a : Bs} {m vars count : Int} {rest : List Ln} {out : List (List Int)} {w0 w : World} {sb qb : Nat} (hb : Below w0.heap.size w0 w) (hq0 : w0.heap.size ≤ qb) (hm : w.cell? ⟨0, 0, none⟩ = some (.int .i64 m)) (hs : w.cell? ⟨sb, 0, none⟩ = some (sv a))
    (hq : w.heap[qb]? = some (.cells #[.int .i64 0, .slice none 0 0] 24 (0, 0))) (ha : a.length ≤ 900000) (hP : POk a vars count rest out) (hmay : satMayN vars out = 0) :
    Calls Tryd.prog 25 #[.func (.func 26) #[] #[.pointer (some ⟨sb, 0, none⟩), .pointer (some ⟨qb, 0, none⟩)]] w fun e w' => e = .returned (.tuple #[.int .i64 0, .int .i64 0]) ∧ PQA w0 w qb vars out w' := by
  have hql := (Array.getElem?_eq_some_iff.1 hq).1
  have hsl := World.block_lt_of_cell? w _ hs
  have hcf : ∀ (w : World), (callFunc 26 #[.pointer (some ⟨sb, 0, none⟩), .pointer (some ⟨qb, 0, none⟩)]).run Tryd.prog w = .ok (.enter 26 #[.pointer (some ⟨sb, 0, none⟩), .pointer (some ⟨qb, 0, none⟩)]) w := fun w => enters_of Tryd.func26 (by kernel_rfl) rfl _ w
  have hbz := hb.size
  refine (guard_ok 26 _ w (PQA w0 w qb vars out) hcf fun w1 hb1 hz1 hE => (Q1_any a m vars count rest out sb qb w1 ((hb1.cell (p := ⟨_, _, _⟩) (World.block_lt_of_cell? w _ hm)).trans hm) ((hb1.cell (p := ⟨sb, 0, none⟩) hsl).trans hs) ((hb1.block qb hql).trans hq) ha hP hmay).mono fun e w' hp => ⟨hp.1, hp.en hE (by omega) (by omega) (by omega) (by omega), ?_⟩).mono ?_
  · obtain ⟨-, hk, v, h1, h2⟩ := hp
    refine ⟨(hb.trans (hb1.mono hbz)).trans (hk.below (by omega) fun b o hb' _ => ⟨by omega, by omega⟩), by have := hk.size; omega, v, h1, ?_⟩
    rw [← hz1]; exact h2
  · rintro e w' ⟨rfl, w2, h2, hk⟩
    exact ⟨rfl, h2.after hk hql hbz⟩
theorem parse_results (tmps : Array Value) (w : World) {qb : Nat} {vars : Int} {v : Value} (h : w.heap[qb]? = some (.cells #[.int .i64 vars, v] 24 (0, 0))) (h2 : tmps.getD 2 undef = .pointer (some ⟨qb, 0, none⟩)) (h3 : tmps.getD 3 undef = .int .i64 0) (h4 : tmps.getD 4 undef = .int .i64 0) :
    (results Tryd.f11 tmps).run Tryd.prog w = .ok (.tuple #[.agg #[.int .i64 vars, v], .int .i64 0, .int .i64 0]) w := by
  have g0 := cell_of_row _ _ 0 _ _ (0, 0) h
  have g1 := cell_of_row _ _ 1 _ _ (0, 0) h
  simp at h2 h3 h4
  simp [results, Tryd.results11, go_sem, h2, h3, h4, g0, g1]
set_option maxRecDepth 100000 in
set_option maxHeartbeats 4000000 in
theorem Parse_ok (a : Bs) (m vars count : Int) (rest : List Ln) (out : List (List Int)) (w : World) (hm : w.cell? ⟨0, 0, none⟩ = some (.int .i64 m)) (ha : a.length ≤ 900000) (hP : POk a vars count rest out) (hmay : satMayN vars out = 0) :
    Calls Tryd.prog 11 #[sv a] w fun e w' => ∃ v, e = .returned (.tuple #[.agg #[.int .i64 vars, v], .int .i64 0, .int .i64 0]) ∧ RIntss w' (Lt w'.heap.size) v out ∧ Below w.heap.size w w' := by
  have hmf : ∀ (fn : Fn) (first cap : Array Value) (w : World), (Instr.makeFunc fn first cap).run Tryd.prog w = .ok (.func fn first cap) w := fun _ _ _ _ => rfl
  obtain ⟨w1, hw1⟩ : ∃ w1, w1 = ((w.alloc (.cells #[sv a] 9)).alloc (.cells #[.int .i64 0, .slice none 0 0] 24)) := ⟨_, rfl⟩
  have hb1 : Below w.heap.size w w1 := by rw [hw1]; exact ((below_alloc w _).alloc (by simp) _)
  have hs : w1.heap[w.heap.size]? = some (.cells #[sv a] 9 (0, 0)) := by rw [hw1]; exact heap_at_alloc (heap_alloc_new w _)
  have hq : w1.heap[w.heap.size + 1]? = some (.cells #[.int .i64 0, .slice none 0 0] 24 (0, 0)) := by rw [hw1]; exact heap_new (by simp)
  have hz : w1.heap.size = w.heap.size + 2 := by rw [hw1]; simp
  have HGd := Lib.hid (guardQ (sb := w.heap.size) (qb := w.heap.size + 1) hb1 (by omega) ((hb1.cell (p := ⟨_, _, _⟩) (World.block_lt_of_cell? w _ hm)).trans hm) (cell_of_row _ _ 0 _ _ _ hs) hq ha hP hmay)
  have HW1 := Lib.hid hw1
  have Hz := Lib.hid hz
  clear hs hq hm hw1 hP hmay hz
  go_enter Tryd.func11, Tryd.ntmps11
  go_wp2_with fail
  rw [← HW1.out]
  refine HGd.out.mono ?_
  rintro e w2 ⟨rfl, hP⟩
  obtain ⟨v, hq, hr⟩ := hP.q
  obtain ⟨A, cv, rfl, -, -⟩ := RSl.open_ hr
  have HB := Lib.hid hP.below
  have Hq := Lib.hid hq
  have Hr := Lib.hid hr
  have q0 := cell_of_row _ _ 0 _ _ _ hq
  have q1 := cell_of_row _ _ 1 _ _ _ hq
  have f0 := frozen_of_row _ _ 0 _ _ hq
  have f1 := frozen_of_row _ _ 1 _ _ hq
  clear hP hq hr HGd
  go_wp2
  have hq4 : (World.setCell (w2.setCell ⟨w.heap.size + 1, 0, none⟩ (.int .i64 vars)) ⟨w.heap.size + 1, 1, none⟩ (.slice A out.length cv)).heap[w.heap.size + 1]? = some (.cells #[.int .i64 vars, .slice A out.length cv] 24 (0, 0)) :=
    heap_setCell_same _ (w.heap.size + 1) 1 _ _ _ (heap_setCell_same _ (w.heap.size + 1) 0 _ _ (.int .i64 vars) Hq.out)
  refine bodyPost_ret (parse_results _ _ hq4 rfl rfl rfl) rfl ⟨_, rfl, ?_, ?_⟩
  · refine RIntss.stable _ _ _ _ _ _ Hr.out (fun b hb => ?_) fun b hb => ?_
    · have hne : b ≠ w.heap.size + 1 := by have := hb.1; have := Hz.out; omega
      exact (Below.heap_setCell _ ⟨w.heap.size + 1, 1, none⟩ _ b hne).trans (Below.heap_setCell _ ⟨w.heap.size + 1, 0, none⟩ _ b hne)
    · show b < _
      simpa using hb.2
  · exact (HB.out.setCell (p := ⟨w.heap.size + 1, 0, none⟩) (Nat.le_succ _) _).setCell (p := ⟨w.heap.size + 1, 1, none⟩) (Nat.le_succ _) _
end Go.Proofs.YtgfbmidpiamkhaaDoor
