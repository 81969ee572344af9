/- guard: what a call does, or how it was stopped. -/
import Derived.Defers
import Derived.Recover
import Derived.Test.YtgfbmidpiamkhaaDoorZd
namespace Go.Proofs.YtgfbmidpiamkhaaDoor
open Go.RowKit

def nAB (a b k : Nat) (_ : Obj) : Prop := k ≠ a ∧ k ≠ b
theorem assert_flt (w : World) (v : Value) : (Instr.typeAssert (.iface 94 v) 20 94 true).run Tryd.prog w = .ok (.tuple #[v, .bool true]) w := by kernel_rfl
/-- two cells of one's own: the error's number and its name -/
def EN (w : World) (a b : Nat) (c n : Int) : Prop := w.heap[a]? = some (.cells #[.int .i64 c] 30 (0, 0)) ∧ w.heap[b]? = some (.cells #[.int .i64 n] 3 (0, 0))
theorem EN.ne {w : World} {a b : Nat} {c n : Int} (h : EN w a b c n) : a ≠ b := by rintro rfl; have := h.1; rw [h.2] at this; simp at this
theorem EN.cells {w : World} {a b : Nat} {c n : Int} (h : EN w a b c n) : w.cell? ⟨a, 0, none⟩ = some (.int .i64 c) ∧ w.cell? ⟨b, 0, none⟩ = some (.int .i64 n) ∧ w.frozen? ⟨a, 0, none⟩ = false ∧ w.frozen? ⟨b, 0, none⟩ = false :=
  ⟨cell_of_row _ _ _ _ _ (0, 0) h.1, cell_of_row _ _ _ _ _ (0, 0) h.2, frozen_of_row _ _ _ _ _ h.1, frozen_of_row _ _ _ _ _ h.2⟩
theorem EN.kp {p : Nat → Obj → Prop} {w w' : World} {a b : Nat} {c n : Int} (h : EN w a b c n) (hk : Kp p w w') (ha : p a (.cells #[.int .i64 c] 30)) (hb : p b (.cells #[.int .i64 n] 3)) : EN w' a b c n := ⟨hk.same _ _ h.1 ha, hk.same _ _ h.2 hb⟩
theorem EN.up {w w' : World} {a b : Nat} {c n : Int} (h : EN w a b c n) (hb : Below w.heap.size w w') : EN w' a b c n := h.kp (Kp.of_below (p := fun _ _ => True) hb) trivial trivial
theorem nAB_set (w : World) (a b : Nat) (c n : Value) : Kp (nAB a b) w ((w.setCell ⟨a, 0, none⟩ c).setCell ⟨b, 0, none⟩ n) := (Kp.setCell _ _ _ fun _ _ h => h.1 rfl).trans (Kp.setCell _ _ _ fun _ _ h => h.2 rfl)
theorem EN.set {w : World} {a b : Nat} {c c2 n n2 : Int} (h : EN w a b c n) : EN ((w.setCell ⟨a, 0, none⟩ (.int .i64 c2)).setCell ⟨b, 0, none⟩ (.int .i64 n2)) a b c2 n2 := by
  have ne := h.ne
  have hb : (w.setCell ⟨a, 0, none⟩ (.int .i64 c2)).heap[b]? = _ := (Below.heap_setCell w ⟨a, 0, none⟩ _ b (fun e => ne e.symm)).trans h.2
  exact ⟨(Below.heap_setCell _ ⟨b, 0, none⟩ _ a ne).trans (heap_setCell_same w a 0 _ _ _ h.1), heap_setCell_same _ b 0 _ _ _ hb⟩
set_option maxRecDepth 100000 in
theorem guard1_panic (a b : Nat) (c c0 n n0 : Int) (w : World) (h : EN w a b c0 n0) :
    CallsD Tryd.prog 45 #[.pointer (some ⟨a, 0, none⟩), .pointer (some ⟨b, 0, none⟩)] (.panicking (flt c n)) w fun e u' w' =>
      e = .returned (.tuple #[]) ∧ u' = .panicking [{ v := .iface 94 (.agg #[.int .i64 c, .int .i64 n]), recovered := true }] ∧ EN w' a b c n ∧ Kp (nAB a b) w w' := by
  refine callsD_of_wpS Tryd.func45 rfl fun c₀ cs hu => ?_
  apply wpS_seq
  apply wpS_region
  simp [wpOpsS, go_sem, recoverD, hu, Tryd.ntmps45, Exit.thenS, flt]
  rw [show (#[Value.pointer (some ⟨a, 0, none⟩), Value.pointer (some ⟨b, 0, none⟩)] ++ (Array.replicate 13 undef).setIfInBounds 3 (Value.iface 94 (Value.agg #[Value.int IntKind.i64 c, .int .i64 n]))) = #[Value.pointer (some ⟨a, 0, none⟩), Value.pointer (some ⟨b, 0, none⟩), undef, undef, undef, Value.iface 94 (Value.agg #[Value.int IntKind.i64 c, .int .i64 n]), undef, undef, undef, undef, undef, undef, undef, undef, undef] from rfl]
  refine wpS_of_wp ?_
  refine wp_mono (Q := fun e a' w' => e = .normal ∧ a'.defers = [] ∧ EN w' a b c n ∧ Kp (nAB a b) w w') ?_ ?_
  · clear hu
    have hta := assert_flt
    obtain ⟨h0, h1, f0, f1⟩ := h.cells
    have ha := (Array.getElem?_eq_some_iff.1 h.1).1
    have hb := (Array.getElem?_eq_some_iff.1 h.2).1
    have hne := h.ne
    have H := Lib.hid h
    clear h
    go_wp2
    go_region
    go_wp2
    have hs : EN ((((w.setCell ⟨a, 0, none⟩ (.int .i64 c)).setCell ⟨b, 0, none⟩ (.int .i64 n)).alloc (.cells #[.int .i64 c, .int .i64 n] 94)).drew) a b c n := (H.out.set (c2 := c) (n2 := n)).up (below_alloc _ _).drew
    have hc : Kp (nAB a b) w ((((w.setCell ⟨a, 0, none⟩ (.int .i64 c)).setCell ⟨b, 0, none⟩ (.int .i64 n)).alloc (.cells #[.int .i64 c, .int .i64 n] 94)).drew) :=
      (nAB_set w a b _ _).trans (Kp.of_below (below_alloc _ _).drew)
    exact ⟨hs, hc⟩
  · rintro e a' w' ⟨rfl, hd, h1, h2⟩
    exact ⟨hd, _, rfl, .tuple #[], by simp [results, Tryd.results45], rfl, rfl, h1, h2⟩
set_option maxRecDepth 100000 in
theorem guard1_idle (a b : Nat) (w : World) :
    CallsD Tryd.prog 45 #[.pointer (some ⟨a, 0, none⟩), .pointer (some ⟨b, 0, none⟩)] .returning w fun e u' w' => e = .returned (.tuple #[]) ∧ u' = .returning ∧ w' = w := by
  refine callsD_of_wpS Tryd.func45 rfl fun c₀ cs hu => ?_
  apply wpS_seq
  apply wpS_region
  simp [wpOpsS, go_sem, recoverD, hu, Tryd.ntmps45, Exit.thenS]
  rw [show (#[Value.pointer (some ⟨a, 0, none⟩), Value.pointer (some ⟨b, 0, none⟩)] ++ (Array.replicate 13 undef).setIfInBounds 3 Value.nilIface) = #[Value.pointer (some ⟨a, 0, none⟩), Value.pointer (some ⟨b, 0, none⟩), undef, undef, undef, Value.nilIface, undef, undef, undef, undef, undef, undef, undef, undef, undef] from rfl]
  refine wpS_of_wp ?_
  refine wp_mono (Q := fun e a' w' => e = .normal ∧ a'.defers = [] ∧ w' = w) ?_ ?_
  · clear hu
    go_wp2
  · rintro e a' w' ⟨rfl, hd, rfl⟩
    exact ⟨hd, .returning, by cases c₀; simp_all, .tuple #[], by simp [results, Tryd.results45], rfl, rfl, rfl⟩
theorem en_start (w : World) : EN ((w.alloc (.cells #[.int .i64 0] 30)).alloc (.cells #[.int .i64 0] 3)) w.heap.size (w.heap.size + 1) 0 0 := by
  have h := heap_alloc_new (w.alloc (.cells #[.int .i64 0] 30)) (.cells #[.int .i64 0] 3)
  rw [World.size_alloc] at h
  exact ⟨(Below.heap_alloc _ _ _ (by simp)).trans (heap_alloc_new w _), h⟩
theorem guard_results (tmps : Array Value) (w : World) {a b : Nat} {c n : Int} (h : EN w a b c n) (h2 : tmps.getD 2 undef = .pointer (some ⟨a, 0, none⟩)) (h3 : tmps.getD 3 undef = .pointer (some ⟨b, 0, none⟩)) :
    (results Tryd.f25 tmps).run Tryd.prog w = .ok (.tuple #[.int .i64 c, .int .i64 n]) w := by
  obtain ⟨g0, g1, -, -⟩ := h.cells
  simp at h2 h3
  simp [results, Tryd.results25, go_sem, h2, h3, g0, g1]
set_option maxHeartbeats 1000000 in
theorem guard_ok (f : FuncId) (cap : Array Value) (w : World) (P : World → Prop) (hcf : ∀ (w : World), (callFunc f cap).run Tryd.prog w = .ok (.enter f cap) w)
    (hf : ∀ w1, Below w.heap.size w w1 → w1.heap.size = w.heap.size + 2 → EN w1 w.heap.size (w.heap.size + 1) 0 0 → Calls Tryd.prog f cap w1 fun e w' => e = .returned (.tuple #[]) ∧ EN w' w.heap.size (w.heap.size + 1) 0 0 ∧ P w') :
    Calls Tryd.prog 25 #[.func (.func f) #[] cap] w fun e w' => e = .returned (.tuple #[.int .i64 0, .int .i64 0]) ∧ ∃ w2, P w2 ∧ Kp (nAB w.heap.size (w.heap.size + 1)) w2 w' := by
  have hmf : ∀ (fn : Fn) (first cap : Array Value) (w : World), (Instr.makeFunc fn first cap).run Tryd.prog w = .ok (.func fn first cap) w := fun _ _ _ _ => rfl
  have HF := Lib.hid (hf _ ((below_alloc w (.cells #[.int .i64 0] 30)).alloc (by simp) (.cells #[.int .i64 0] 3)) (by simp) (en_start w))
  clear hf
  go_enter_defers Tryd.func25, Tryd.ntmps25
  go_wp2_with fail
  refine HF.out.mono ?_
  rintro e w2 ⟨rfl, hE, hP⟩
  obtain ⟨h0, h1, f0, f1⟩ := hE.cells
  have hE2 := hE.set (c2 := 0) (n2 := 0)
  have hC2 : Kp (nAB w.heap.size (w.heap.size + 1)) w2 ((w2.setCell ⟨w.heap.size, 0, none⟩ (.int .i64 0)).setCell ⟨w.heap.size + 1, 0, none⟩ (.int .i64 0)) := nAB_set _ _ _ _ _
  have HE2 := Lib.hid hE2
  have HC2 := Lib.hid hC2
  have HP := Lib.hid hP
  clear hE hE2 hC2 hP HF hcf hmf
  go_wp2
  refine leaves_cons (f := 45) (args := #[.pointer (some ⟨w.heap.size, 0, none⟩), .pointer (some ⟨w.heap.size + 1, 0, none⟩)]) (by simp) (by simp [go_sem]) ?_
  refine (guard1_idle _ _ _).mono ?_
  rintro e u' w'' ⟨rfl, rfl, rfl⟩
  exact ⟨_, guard_results _ _ HE2.out rfl rfl, rfl, w2, HP.out, HC2.out⟩
set_option maxHeartbeats 1000000 in
theorem guard_bad (f : FuncId) (cap : Array Value) (w : World) (c n : Int) (P : World → Prop) (hcf : ∀ (w : World), (callFunc f cap).run Tryd.prog w = .ok (.enter f cap) w)
    (hf : ∀ w1, Below w.heap.size w w1 → w1.heap.size = w.heap.size + 2 → EN w1 w.heap.size (w.heap.size + 1) 0 0 → Calls Tryd.prog f cap w1 fun e w' => e = .panicked (flt c n) ∧ EN w' w.heap.size (w.heap.size + 1) 0 0 ∧ P w') :
    Calls Tryd.prog 25 #[.func (.func f) #[] cap] w fun e w' => e = .returned (.tuple #[.int .i64 c, .int .i64 n]) ∧ ∃ w2, P w2 ∧ Kp (nAB w.heap.size (w.heap.size + 1)) w2 w' := by
  have hmf : ∀ (fn : Fn) (first cap : Array Value) (w : World), (Instr.makeFunc fn first cap).run Tryd.prog w = .ok (.func fn first cap) w := fun _ _ _ _ => rfl
  have HF := Lib.hid (hf _ ((below_alloc w (.cells #[.int .i64 0] 30)).alloc (by simp) (.cells #[.int .i64 0] 3)) (by simp) (en_start w))
  clear hf
  go_enter_defers Tryd.func25, Tryd.ntmps25
  go_wp2_with fail
  refine HF.out.mono ?_
  rintro e w2 ⟨rfl, hE, hP⟩
  refine leaves_cons (f := 45) (args := #[.pointer (some ⟨w.heap.size, 0, none⟩), .pointer (some ⟨w.heap.size + 1, 0, none⟩)]) (by simp) (by simp [go_sem]) ?_
  refine (guard1_panic _ _ c 0 n 0 _ hE).mono ?_
  rintro e u' w'' ⟨rfl, rfl, hE2, hC2⟩
  exact ⟨_, guard_results _ _ hE2 rfl rfl, rfl, w2, hP, hC2⟩
end Go.Proofs.YtgfbmidpiamkhaaDoor
