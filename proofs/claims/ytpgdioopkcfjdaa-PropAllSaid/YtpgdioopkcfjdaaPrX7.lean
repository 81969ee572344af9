/- guard: what a call does, or what goes wrong. -/
import Derived.Test.YtpgdioopkcfjdaaPrX6
import Derived.Defers
import Derived.Recover
namespace Go.Proofs.Ytpgdioopkcfjdaa
open Go.RowKit

theorem assert_flt (w : World) (v : Value) : (Instr.typeAssert (.iface 79 v) 20 79 true).run Try.prog w = .ok (.tuple #[v, .bool true]) w := by kernel_rfl
/-- two cells of one's own: the error's number and its name -/
def EN (w : World) (a b : Nat) (c : Int) (n : Bs) : Prop := w.heap[a]? = some (.cells #[.int .i64 c] 28 (0, 0)) ∧ w.heap[b]? = some (.cells #[sv n] 9 (0, 0))
theorem EN.ne {w : World} {a b : Nat} {c : Int} {n : Bs} (h : EN w a b c n) : a ≠ b := by rintro rfl; have := h.1; rw [h.2] at this; simp at this
theorem EN.cells {w : World} {a b : Nat} {c : Int} {n : Bs} (h : EN w a b c n) : w.cell? ⟨a, 0, none⟩ = some (.int .i64 c) ∧ w.cell? ⟨b, 0, none⟩ = some (sv n) ∧ w.frozen? ⟨a, 0, none⟩ = false ∧ w.frozen? ⟨b, 0, none⟩ = false :=
  ⟨cell_of_row _ _ _ _ _ (0, 0) h.1, cell_of_row _ _ _ _ _ (0, 0) h.2, frozen_of_row _ _ _ _ _ h.1, frozen_of_row _ _ _ _ _ h.2⟩
theorem EN.kp {w w' : World} {a b : Nat} {c : Int} {n : Bs} (h : EN w a b c n) (ka : Kp w w' a) (kb : Kp w w' b) : EN w' a b c n := ⟨ka _ h.1, kb _ h.2⟩
theorem EN.set {w : World} {a b : Nat} {c c2 : Int} {n n2 : Bs} (h : EN w a b c n) : EN ((w.setCell ⟨a, 0, none⟩ (.int .i64 c2)).setCell ⟨b, 0, none⟩ (sv n2)) a b c2 n2 := by
  have ne := h.ne
  refine ⟨((ch_set _ b 0 (sv n2)).kp ne).at_ (by rw [heap_setCell_same w a 0 _ _ _ h.1]; rfl), ?_⟩
  have hb : (w.setCell ⟨a, 0, none⟩ (.int .i64 c2)).heap[b]? = _ := ((ch_set w a 0 (.int .i64 c2)).kp (fun e => ne e.symm)).at_ h.2
  rw [heap_setCell_same _ b 0 _ _ _ hb]; rfl
set_option maxRecDepth 100000 in
theorem guard1_panic (a b : Nat) (c c0 : Int) (n n0 : Bs) (w : World) (h : EN w a b c0 n0) :
    CallsD Try.prog 41 #[.pointer (some ⟨a, 0, none⟩), .pointer (some ⟨b, 0, none⟩)] (.panicking (flt c n)) w fun e u' w' =>
      e = .returned (.tuple #[]) ∧ u' = .panicking [{ v := .iface 79 (.agg #[.int .i64 c, sv n]), recovered := true }] ∧ EN w' a b c n ∧ Ch (fun k => k = a ∨ k = b) w w' := by
  refine callsD_of_wpS Try.func41 rfl fun c₀ cs hu => ?_
  apply wpS_seq
  apply wpS_region
  simp [wpOpsS, go_sem, recoverD, hu, Try.ntmps41, Exit.thenS, flt]
  rw [show (#[Value.pointer (some ⟨a, 0, none⟩), Value.pointer (some ⟨b, 0, none⟩)] ++ (Array.replicate 13 undef).setIfInBounds 3 (Value.iface 79 (Value.agg #[Value.int IntKind.i64 c, sv n]))) = #[Value.pointer (some ⟨a, 0, none⟩), Value.pointer (some ⟨b, 0, none⟩), undef, undef, undef, Value.iface 79 (Value.agg #[Value.int IntKind.i64 c, sv n]), undef, undef, undef, undef, undef, undef, undef, undef, undef] from rfl]
  refine wpS_of_wp ?_
  refine wp_mono (Q := fun e a' w' => e = .normal ∧ a'.defers = [] ∧ EN w' a b c n ∧ Ch (fun k => k = a ∨ k = b) w w') ?_ ?_
  · clear hu
    have hta := assert_flt
    obtain ⟨h0, h1, f0, f1⟩ := h.cells
    have ha := (Array.getElem?_eq_some_iff.1 h.1).1
    have hb := (Array.getElem?_eq_some_iff.1 h.2).1
    have hne := h.ne
    have H := Lib.hid h
    clear h
    go_wp2
    go_region
    go_wp2
    have hs : EN ((((w.setCell ⟨a, 0, none⟩ (.int .i64 c)).setCell ⟨b, 0, none⟩ (sv n)).alloc (.cells #[.int .i64 c, sv n] 79)).drew) a b c n := (H.out.set (c2 := c) (n2 := n)).kp (kp_new (below_alloc _ _).drew _) (kp_new (below_alloc _ _).drew _)
    have hc : Ch (fun k => k = a ∨ k = b) w ((((w.setCell ⟨a, 0, none⟩ (.int .i64 c)).setCell ⟨b, 0, none⟩ (sv n)).alloc (.cells #[.int .i64 c, sv n] 79)).drew) :=
      (((ch_set w a 0 (.int .i64 c)).imp fun _ _ e => .inl e).trans ((ch_set _ b 0 (sv n)).imp fun _ _ e => .inr e)).trans (ch_new (below_alloc _ _).drew _)
    exact ⟨hs, hc⟩
  · rintro e a' w' ⟨rfl, hd, h1, h2⟩
    exact ⟨hd, _, rfl, .tuple #[], by simp [results, Try.results41], rfl, rfl, h1, h2⟩
set_option maxRecDepth 100000 in
theorem guard1_idle (a b : Nat) (w : World) :
    CallsD Try.prog 41 #[.pointer (some ⟨a, 0, none⟩), .pointer (some ⟨b, 0, none⟩)] .returning w fun e u' w' => e = .returned (.tuple #[]) ∧ u' = .returning ∧ w' = w := by
  refine callsD_of_wpS Try.func41 rfl fun c₀ cs hu => ?_
  apply wpS_seq
  apply wpS_region
  simp [wpOpsS, go_sem, recoverD, hu, Try.ntmps41, Exit.thenS]
  rw [show (#[Value.pointer (some ⟨a, 0, none⟩), Value.pointer (some ⟨b, 0, none⟩)] ++ (Array.replicate 13 undef).setIfInBounds 3 Value.nilIface) = #[Value.pointer (some ⟨a, 0, none⟩), Value.pointer (some ⟨b, 0, none⟩), undef, undef, undef, Value.nilIface, undef, undef, undef, undef, undef, undef, undef, undef, undef] from rfl]
  refine wpS_of_wp ?_
  refine wp_mono (Q := fun e a' w' => e = .normal ∧ a'.defers = [] ∧ w' = w) ?_ ?_
  · clear hu
    go_wp2
  · rintro e a' w' ⟨rfl, hd, rfl⟩
    exact ⟨hd, .returning, by cases c₀; simp_all, .tuple #[], by simp [results, Try.results41], rfl, rfl, rfl⟩
/-- what goes wrong with a call -/
inductive Bad where
  | loop (n : Bs)
  | big (n : Bs)
def Bad.c : Bad → Int
  | .loop _ => 22
  | .big _ => 2
def Bad.n : Bad → Bs
  | .loop n => n
  | .big n => n
theorem en_start (w : World) : EN ((w.alloc (.cells #[.int .i64 0] 28)).alloc (.cells #[sv []] 9)) w.heap.size (w.heap.size + 1) 0 [] := by
  have h := heap_alloc_new (w.alloc (.cells #[.int .i64 0] 28)) (.cells #[sv []] 9)
  rw [World.size_alloc] at h
  exact ⟨(Below.heap_alloc _ _ _ (by simp)).trans (heap_alloc_new w _), h⟩
theorem guard_results (tmps : Array Value) (w : World) {a b : Nat} {c : Int} {n : Bs} (h : EN w a b c n) (h2 : tmps.getD 2 undef = .pointer (some ⟨a, 0, none⟩)) (h3 : tmps.getD 3 undef = .pointer (some ⟨b, 0, none⟩)) :
    (results Try.f29 tmps).run Try.prog w = .ok (.tuple #[.int .i64 c, sv n]) w := by
  obtain ⟨g0, g1, -, -⟩ := h.cells
  simp at h2 h3
  simp [results, Try.results29, go_sem, h2, h3, g0, g1]
set_option maxHeartbeats 1000000 in
theorem guard_ok (f : FuncId) (cap : Array Value) (w : World) (P : World → Prop) (hcf : ∀ (w : World), (callFunc f cap).run Try.prog w = .ok (.enter f cap) w)
    (hf : ∀ w1, Below w.heap.size w w1 → w1.heap.size = w.heap.size + 2 → EN w1 w.heap.size (w.heap.size + 1) 0 [] → Calls Try.prog f cap w1 fun e w' => e = .returned (.tuple #[]) ∧ EN w' w.heap.size (w.heap.size + 1) 0 [] ∧ P w') :
    Calls Try.prog 29 #[.func (.func f) #[] cap] w fun e w' => e = .returned (.tuple #[.int .i64 0, sv []]) ∧ ∃ w2, P w2 ∧ Ch (fun k => k = w.heap.size ∨ k = w.heap.size + 1) w2 w' := by
  have hmf : ∀ (fn : Fn) (first cap : Array Value) (w : World), (Instr.makeFunc fn first cap).run Try.prog w = .ok (.func fn first cap) w := fun _ _ _ _ => rfl
  have HF := Lib.hid (hf _ ((below_alloc w (.cells #[.int .i64 0] 28)).alloc (by simp) (.cells #[sv []] 9)) (by simp) (en_start w))
  clear hf
  go_enter_defers Try.func29, Try.ntmps29
  go_wp2_with fail
  refine HF.out.mono ?_
  rintro e w2 ⟨rfl, hE, hP⟩
  obtain ⟨h0, h1, f0, f1⟩ := hE.cells
  have hE2 := hE.set (c2 := 0) (n2 := [])
  have hC2 : Ch (fun k => k = w.heap.size ∨ k = w.heap.size + 1) w2 ((w2.setCell ⟨w.heap.size, 0, none⟩ (.int .i64 0)).setCell ⟨w.heap.size + 1, 0, none⟩ (sv [])) := ((ch_set w2 w.heap.size 0 (.int .i64 0)).imp fun _ _ e => .inl e).trans ((ch_set _ (w.heap.size + 1) 0 (sv [])).imp fun _ _ e => .inr e)
  have HE2 := Lib.hid hE2
  have HC2 := Lib.hid hC2
  have HP := Lib.hid hP
  clear hE hE2 hC2 hP HF hcf hmf
  go_wp2
  refine leaves_cons (f := 41) (args := #[.pointer (some ⟨w.heap.size, 0, none⟩), .pointer (some ⟨w.heap.size + 1, 0, none⟩)]) (by simp) (by simp [go_sem]) ?_
  refine (guard1_idle _ _ _).mono ?_
  rintro e u' w'' ⟨rfl, rfl, rfl⟩
  exact ⟨_, guard_results _ _ HE2.out rfl rfl, rfl, w2, HP.out, HC2.out⟩
set_option maxHeartbeats 1000000 in
theorem guard_bad (f : FuncId) (cap : Array Value) (w : World) (c : Int) (n : Bs) (P : World → Prop) (hcf : ∀ (w : World), (callFunc f cap).run Try.prog w = .ok (.enter f cap) w)
    (hf : ∀ w1, Below w.heap.size w w1 → w1.heap.size = w.heap.size + 2 → EN w1 w.heap.size (w.heap.size + 1) 0 [] → Calls Try.prog f cap w1 fun e w' => e = .panicked (flt c n) ∧ EN w' w.heap.size (w.heap.size + 1) 0 [] ∧ P w') :
    Calls Try.prog 29 #[.func (.func f) #[] cap] w fun e w' => e = .returned (.tuple #[.int .i64 c, sv n]) ∧ ∃ w2, P w2 ∧ Ch (fun k => k = w.heap.size ∨ k = w.heap.size + 1) w2 w' := by
  have hmf : ∀ (fn : Fn) (first cap : Array Value) (w : World), (Instr.makeFunc fn first cap).run Try.prog w = .ok (.func fn first cap) w := fun _ _ _ _ => rfl
  have HF := Lib.hid (hf _ ((below_alloc w (.cells #[.int .i64 0] 28)).alloc (by simp) (.cells #[sv []] 9)) (by simp) (en_start w))
  clear hf
  go_enter_defers Try.func29, Try.ntmps29
  go_wp2_with fail
  refine HF.out.mono ?_
  rintro e w2 ⟨rfl, hE, hP⟩
  refine leaves_cons (f := 41) (args := #[.pointer (some ⟨w.heap.size, 0, none⟩), .pointer (some ⟨w.heap.size + 1, 0, none⟩)]) (by simp) (by simp [go_sem]) ?_
  refine (guard1_panic _ _ c 0 n [] _ hE).mono ?_
  rintro e u' w'' ⟨rfl, rfl, hE2, hC2⟩
  exact ⟨_, guard_results _ _ hE2 rfl rfl, rfl, w2, hP, hC2⟩
end Go.Proofs.Ytpgdioopkcfjdaa
