/- dimacs.ParseAnswer. -/
import Derived.Test.YtgfbmidpiamkhaaDoorQAnW3
namespace Go.Proofs.YtgfbmidpiamkhaaDoor
open Go.RowKit
open C01 D28

structure AAf (w0 w : World) (xb : Nat) (o : Option (Nat × List Bool)) (w' : World) : Prop where
  below : Below w0.heap.size w0 w'
  size : w.heap.size + 2 ≤ w'.heap.size
  x : ∃ (E : Nat) (v : Value), w'.heap[xb]? = some (.cells #[.int .i64 (E : Nat), v, .slice none 0 0, .int .i64 0] 47 (0, 0)) ∧ ∀ E' T, o = some (E', T) → E = E' ∧ RBools w' (fun b => w.heap.size + 2 ≤ b ∧ b < w'.heap.size) v T
theorem AAf.after {w0 w w2 w' : World} {xb : Nat} {o : Option (Nat × List Bool)} (h : AAf w0 w xb o w2) (hk : Kp (nAB w.heap.size (w.heap.size + 1)) w2 w') (hxb : xb < w.heap.size) (h0 : w0.heap.size ≤ w.heap.size) : AAf w0 w xb o w' := by
  have hsz := h.size
  have h1 : Below w.heap.size w2 w' := hk.below (by omega) fun b o hb _ => ⟨by omega, by omega⟩
  obtain ⟨E, v, hx, hr⟩ := h.x
  refine ⟨h.below.trans (h1.mono h0), Nat.le_trans hsz hk.size, E, v, (h1.block xb hxb).trans hx, fun E' T e => ⟨(hr E' T e).1, (hr E' T e).2.kp hk (fun b c t f hb => ⟨by omega, by omega⟩) fun b hb => ⟨hb.1, Nat.lt_of_lt_of_le hb.2 hk.size⟩⟩⟩
theorem guardA {a : Bs} {m : Int} {n : Nat} {o : Option (Nat × List Bool)} {w0 w : World} {sb xb hb : Nat} (hbl : Below w0.heap.size w0 w) (hx0 : w0.heap.size ≤ xb) (hh0 : w0.heap.size ≤ hb) (hm : w.cell? ⟨0, 0, none⟩ = some (.int .i64 m)) (hs : w.cell? ⟨sb, 0, none⟩ = some (sv a))
    (hx : w.heap[xb]? = some (.cells #[.int .i64 0, .slice none 0 0, .slice none 0 0, .int .i64 0] 47 (0, 0))) (hh : w.heap[hb]? = some (.cells #[.bool false] 4 (0, 0))) (hsx : sb ≠ xb) (hsh : sb ≠ hb) (hxh : xb ≠ hb) (ha : a.length ≤ 900000) (hr : aR a = (o, n)) :
    Calls Tryd.prog 25 #[.func (.func 40) #[] #[.pointer (some ⟨sb, 0, none⟩), .pointer (some ⟨xb, 0, none⟩), .pointer (some ⟨hb, 0, none⟩)]] w fun e w' => e = .returned (.tuple #[.int .i64 (if o.isSome then 0 else 1), .int .i64 (if o.isSome then 0 else (n : Nat))]) ∧ AAf w0 w xb o w' := by
  have hxl := (Array.getElem?_eq_some_iff.1 hx).1
  have hhl := (Array.getElem?_eq_some_iff.1 hh).1
  have hsl : sb < w.heap.size := World.block_lt_of_cell? w _ hs
  have hzb := hbl.size
  have key : ∀ w1, Below w.heap.size w w1 → w1.heap.size = w.heap.size + 2 → EN w1 w.heap.size (w.heap.size + 1) 0 0 → ∀ e w', PAPost w1.heap.size xb hb a w1 e w' → EN w' w.heap.size (w.heap.size + 1) 0 0 ∧ AAf w0 w xb o w' := by
    intro w1 hb1 hz1 hE e w' hp
    obtain ⟨hk, h2⟩ := hp
    rw [hr] at h2
    refine ⟨hE.kp hk ⟨by omega, by omega⟩ ⟨by omega, by omega⟩, (hbl.trans (hb1.mono hzb)).trans (hk.below (by omega) fun b o hb' _ => ⟨by omega, by omega⟩), by have := hk.size; omega, ?_⟩
    cases o with
    | some p =>
      obtain ⟨E, T⟩ := p
      obtain ⟨-, v, hx2, hr2⟩ := h2
      exact ⟨E, v, hx2, fun E' T' e => by cases e; rw [hz1] at hr2; exact ⟨rfl, hr2⟩⟩
    | none =>
      obtain ⟨-, E, v, hx2⟩ := h2
      exact ⟨E, v, hx2, fun E' T' e => by cases e⟩
  have hcl : ∀ w1, Below w.heap.size w w1 → Calls Tryd.prog 40 #[.pointer (some ⟨sb, 0, none⟩), .pointer (some ⟨xb, 0, none⟩), .pointer (some ⟨hb, 0, none⟩)] w1 (PAPost w1.heap.size xb hb a w1) := fun w1 hb1 =>
    PA1_any a m sb xb hb w1 ((hb1.cell (p := ⟨_, _, _⟩) (World.block_lt_of_cell? w _ hm)).trans hm) ((hb1.cell (p := ⟨sb, 0, none⟩) hsl).trans hs) ((hb1.block xb hxl).trans hx) ((hb1.block hb hhl).trans hh) hsx hsh hxh ha
  have hcf : ∀ (w : World), (callFunc 40 #[.pointer (some ⟨sb, 0, none⟩), .pointer (some ⟨xb, 0, none⟩), .pointer (some ⟨hb, 0, none⟩)]).run Tryd.prog w = .ok (.enter 40 #[.pointer (some ⟨sb, 0, none⟩), .pointer (some ⟨xb, 0, none⟩), .pointer (some ⟨hb, 0, none⟩)]) w := fun w => enters_of Tryd.func40 (by kernel_rfl) rfl _ w
  cases o with
  | some p =>
    refine (guard_ok 40 _ w (AAf w0 w xb (some p)) hcf fun w1 hb1 hz1 hE => (hcl w1 hb1).mono fun e w' hp => ⟨by have h2 := hp.2; rw [hr] at h2; exact h2.1, key w1 hb1 hz1 hE e w' hp⟩).mono ?_
    rintro e w' ⟨rfl, w2, h2, hk⟩
    exact ⟨rfl, h2.after hk hxl hzb⟩
  | none =>
    refine (guard_bad 40 _ w 1 n (AAf w0 w xb none) hcf fun w1 hb1 hz1 hE => (hcl w1 hb1).mono fun e w' hp => ⟨by have h2 := hp.2; rw [hr] at h2; exact h2.1, key w1 hb1 hz1 hE e w' hp⟩).mono ?_
    rintro e w' ⟨rfl, w2, h2, hk⟩
    exact ⟨rfl, h2.after hk hxl hzb⟩
def zA : Value := .agg #[.int .i64 0, .slice none 0 0, .slice none 0 0, .int .i64 0]
def AnsPost (a : Bs) (w : World) (e : Ending) (w' : World) : Prop :=
  Below w.heap.size w w' ∧ match aR a with
  | (some (E, T), _) => ∃ v, e = .returned (.tuple #[.agg #[.int .i64 (E : Nat), v, .slice none 0 0, .int .i64 0], .int .i64 0, .int .i64 0]) ∧ RBools w' (Lt w'.heap.size) v T
  | (none, n) => e = .returned (.tuple #[zA, .int .i64 1, .int .i64 (n : Nat)])
theorem ans_results (tmps : Array Value) (w : World) {xb : Nat} {c n x0 : Int} {v : Value} (h : w.heap[xb]? = some (.cells #[.int .i64 x0, v, .slice none 0 0, .int .i64 0] 47 (0, 0))) (h2 : tmps.getD 2 undef = .pointer (some ⟨xb, 0, none⟩)) (h3 : tmps.getD 3 undef = .int .i64 c) (h4 : tmps.getD 4 undef = .int .i64 n) :
    (results Tryd.f19 tmps).run Tryd.prog w = .ok (.tuple #[.agg #[.int .i64 x0, v, .slice none 0 0, .int .i64 0], .int .i64 c, .int .i64 n]) w := by
  have g0 := cell_of_row _ _ 0 _ _ (0, 0) h
  have g1 := cell_of_row _ _ 1 _ _ (0, 0) h
  have g2 := cell_of_row _ _ 2 _ _ (0, 0) h
  have g3 := cell_of_row _ _ 3 _ _ (0, 0) h
  simp at h2 h3 h4
  simp [results, Tryd.results19, go_sem, h2, h3, h4, g0, g1, g2, g3]
/-- four cells are written -/
theorem heap_four (w : World) (b : Nat) (x0 x1 x2 x3 y0 y1 y2 y3 : Value) {t : TypeId} (h : w.heap[b]? = some (.cells #[x0, x1, x2, x3] t (0, 0))) : ((((w.setCell ⟨b, 0, none⟩ y0).setCell ⟨b, 1, none⟩ y1).setCell ⟨b, 2, none⟩ y2).setCell ⟨b, 3, none⟩ y3).heap[b]? = some (.cells #[y0, y1, y2, y3] t (0, 0)) :=
  heap_setCell_same _ b 3 _ _ _ (heap_setCell_same _ b 2 _ _ _ (heap_setCell_same _ b 1 _ _ _ (heap_setCell_same _ b 0 _ _ _ h)))
set_option maxRecDepth 100000 in
set_option maxHeartbeats 8000000 in
theorem ParseAnswer_any (a : Bs) (m : Int) (w : World) (hm : w.cell? ⟨0, 0, none⟩ = some (.int .i64 m)) (ha : a.length ≤ 900000) : Calls Tryd.prog 19 #[sv a] w (AnsPost a w) := by
  have hmf : ∀ (fn : Fn) (first cap : Array Value) (w : World), (Instr.makeFunc fn first cap).run Tryd.prog w = .ok (.func fn first cap) w := fun _ _ _ _ => rfl
  rcases hr : aR a with ⟨o, n⟩
  obtain ⟨w1, hw1⟩ : ∃ w1, w1 = ((w.alloc (.cells #[sv a] 9)).alloc (.cells #[.int .i64 0, .slice none 0 0, .slice none 0 0, .int .i64 0] 47)).alloc (.cells #[.bool false] 4) := ⟨_, rfl⟩
  have hb1 : Below w.heap.size w w1 := by rw [hw1]; exact ((below_alloc w _).alloc (by simp) _).alloc (by simp; omega) _
  have hs : w1.heap[w.heap.size]? = some (.cells #[sv a] 9 (0, 0)) := by rw [hw1]; exact heap_at_alloc (heap_at_alloc (heap_alloc_new w _))
  have hx : w1.heap[w.heap.size + 1]? = some (.cells #[.int .i64 0, .slice none 0 0, .slice none 0 0, .int .i64 0] 47 (0, 0)) := by rw [hw1]; exact heap_at_alloc (heap_new (by simp))
  have hh : w1.heap[w.heap.size + 1 + 1]? = some (.cells #[.bool false] 4 (0, 0)) := by rw [hw1]; exact heap_new (by simp)
  have HGd := Lib.hid (guardA (sb := w.heap.size) (xb := w.heap.size + 1) (hb := w.heap.size + 1 + 1) hb1 (by omega) (by omega) ((hb1.cell (p := ⟨_, _, _⟩) (World.block_lt_of_cell? w _ hm)).trans hm) (cell_of_row _ _ 0 _ _ _ hs) hx hh (by omega) (by omega) (by omega) ha hr)
  have HW1 := Lib.hid hw1
  have Hz := Lib.hid (show w1.heap.size = w.heap.size + 3 by rw [hw1]; simp)
  clear hs hx hh hm hw1
  have HP := Lib.hid hr
  clear hr
  cases o with
  | some p =>
    obtain ⟨E, T⟩ := p
    go_enter Tryd.func19, Tryd.ntmps19
    go_wp2_with fail
    rw [← HW1.out]
    refine HGd.out.mono ?_
    rintro e w2 ⟨rfl, hP⟩
    simp only [Option.isSome, reduceIte]
    obtain ⟨E2, v, hx, hr⟩ := hP.x
    obtain ⟨rfl, hr2⟩ := hr E T rfl
    obtain ⟨A, cv, rfl, -, -⟩ := RSl.open_ hr2
    have Hr := Lib.hid hr2
    clear hr2
    have HB := Lib.hid hP.below
    have Hx := Lib.hid hx
    have q0 := cell_of_row _ _ 0 _ _ _ hx
    have q1 := cell_of_row _ _ 1 _ _ _ hx
    have q2 := cell_of_row _ _ 2 _ _ _ hx
    have q3 := cell_of_row _ _ 3 _ _ _ hx
    have f0 := frozen_of_row _ _ 0 _ _ hx
    have f1 := frozen_of_row _ _ 1 _ _ hx
    have f2 := frozen_of_row _ _ 2 _ _ hx
    have f3 := frozen_of_row _ _ 3 _ _ hx
    clear hP hx hr HGd
    go_wp2
    refine bodyPost_ret (ans_results _ _ (heap_four _ _ _ _ _ _ _ _ _ _ Hx.out) rfl rfl rfl) rfl ⟨?_, ?_⟩
    · exact (((HB.out.setCell (p := ⟨w.heap.size + 1, 0, none⟩) (Nat.le_succ _) _).setCell (p := ⟨w.heap.size + 1, 1, none⟩) (Nat.le_succ _) _).setCell (p := ⟨w.heap.size + 1, 2, none⟩) (Nat.le_succ _) _).setCell (p := ⟨w.heap.size + 1, 3, none⟩) (Nat.le_succ _) _
    · rw [HP.out]
      refine ⟨_, rfl, RBools.stable _ _ _ _ _ _ Hr.out (fun b hb => ?_) fun b hb => ?_⟩
      · have hne : b ≠ w.heap.size + 1 := by have := hb.1; have := Hz.out; omega
        exact (Below.heap_setCell _ ⟨w.heap.size + 1, 3, none⟩ _ b hne).trans ((Below.heap_setCell _ ⟨w.heap.size + 1, 2, none⟩ _ b hne).trans ((Below.heap_setCell _ ⟨w.heap.size + 1, 1, none⟩ _ b hne).trans (Below.heap_setCell _ ⟨w.heap.size + 1, 0, none⟩ _ b hne)))
      · show b < _
        simpa using hb.2
  | none =>
    go_enter Tryd.func19, Tryd.ntmps19
    go_wp2_with fail
    rw [← HW1.out]
    refine HGd.out.mono ?_
    rintro e w2 ⟨rfl, hP⟩
    simp only [Option.isSome, reduceIte, Bool.false_eq_true]
    obtain ⟨E2, v, hx, hr⟩ := hP.x
    have HB := Lib.hid hP.below
    have Hx := Lib.hid hx
    have q0 := cell_of_row _ _ 0 _ _ _ hx
    have q1 := cell_of_row _ _ 1 _ _ _ hx
    have q2 := cell_of_row _ _ 2 _ _ _ hx
    have q3 := cell_of_row _ _ 3 _ _ _ hx
    have f0 := frozen_of_row _ _ 0 _ _ hx
    have f1 := frozen_of_row _ _ 1 _ _ hx
    have f2 := frozen_of_row _ _ 2 _ _ hx
    have f3 := frozen_of_row _ _ 3 _ _ hx
    clear hP hx hr HGd
    go_wp2
    refine bodyPost_ret (ans_results _ _ (heap_four _ _ _ _ _ _ _ _ _ _ Hx.out) rfl rfl rfl) rfl ⟨?_, ?_⟩
    · exact (((HB.out.setCell (p := ⟨w.heap.size + 1, 0, none⟩) (Nat.le_succ _) _).setCell (p := ⟨w.heap.size + 1, 1, none⟩) (Nat.le_succ _) _).setCell (p := ⟨w.heap.size + 1, 2, none⟩) (Nat.le_succ _) _).setCell (p := ⟨w.heap.size + 1, 3, none⟩) (Nat.le_succ _) _
    · rw [HP.out]; rfl
end Go.Proofs.YtgfbmidpiamkhaaDoor
