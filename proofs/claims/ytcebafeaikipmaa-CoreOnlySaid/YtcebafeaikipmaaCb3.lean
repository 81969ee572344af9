/- guard: what a call does, or how it was stopped. / What the solver tells of a deal: blamed just where no choice is right; and that it is never open where enough conflicts are allowed. Plain. -/
import Derived.Defers
import Derived.Recover
import Derived.Test.YtcebafeaikipmaaCa4
import Derived.Test.YtcebafeaikipmaaCb2
import Derived.Test.YtcebafeaikipmaaZa
import Derived.Test.YtcebafeaikipmaaZk
import Derived.Test.YtcebafeaikipmaaZs
namespace Go.Proofs.Ytcebafeaikipmaa
open Go.RowKit
open S15 (Ch Kp ch_new ch_set kp_new)

/-- a call that was stopped -/
def flt (c n : Int) : List PanicEntry := [{ v := .iface 66 (.agg #[.int .i64 c, .int .i64 n]), recovered := false }]
theorem assert_flt (w : World) (v : Value) : (Instr.typeAssert (.iface 66 v) 20 66 true).run Try.prog w = .ok (.tuple #[v, .bool true]) w := by kernel_rfl
/-- two cells of one's own: the error's number and its name -/
def EN (w : World) (a b : Nat) (c n : Int) : Prop := w.heap[a]? = some (.cells #[.int .i64 c] 3 (0, 0)) ∧ w.heap[b]? = some (.cells #[.int .i64 n] 39 (0, 0))
theorem EN.ne {w : World} {a b : Nat} {c n : Int} (h : EN w a b c n) : a ≠ b := by rintro rfl; have := h.1; rw [h.2] at this; simp at this
theorem EN.cells {w : World} {a b : Nat} {c n : Int} (h : EN w a b c n) : w.cell? ⟨a, 0, none⟩ = some (.int .i64 c) ∧ w.cell? ⟨b, 0, none⟩ = some (.int .i64 n) ∧ w.frozen? ⟨a, 0, none⟩ = false ∧ w.frozen? ⟨b, 0, none⟩ = false :=
  ⟨cell_of_row _ _ _ _ _ (0, 0) h.1, cell_of_row _ _ _ _ _ (0, 0) h.2, frozen_of_row _ _ _ _ _ h.1, frozen_of_row _ _ _ _ _ h.2⟩
theorem EN.kp {w w' : World} {a b : Nat} {c n : Int} (h : EN w a b c n) (ka : Kp w w' a) (kb : Kp w w' b) : EN w' a b c n := ⟨ka _ h.1, kb _ h.2⟩
theorem EN.set {w : World} {a b : Nat} {c c2 n n2 : Int} (h : EN w a b c n) : EN ((w.setCell ⟨a, 0, none⟩ (.int .i64 c2)).setCell ⟨b, 0, none⟩ (.int .i64 n2)) a b c2 n2 := by
  have ne := h.ne
  refine ⟨((ch_set _ b 0 (.int .i64 n2)).kp ne).at_ (by rw [heap_setCell_same w a 0 _ _ _ h.1]; rfl), ?_⟩
  have hb : (w.setCell ⟨a, 0, none⟩ (.int .i64 c2)).heap[b]? = _ := ((ch_set w a 0 (.int .i64 c2)).kp (fun e => ne e.symm)).at_ h.2
  rw [heap_setCell_same _ b 0 _ _ _ hb]; rfl
set_option maxRecDepth 100000 in
theorem guard1_panic (a b : Nat) (c c0 n n0 : Int) (w : World) (h : EN w a b c0 n0) :
    CallsD Try.prog 35 #[.pointer (some ⟨a, 0, none⟩), .pointer (some ⟨b, 0, none⟩)] (.panicking (flt c n)) w fun e u' w' =>
      e = .returned (.tuple #[]) ∧ u' = .panicking [{ v := .iface 66 (.agg #[.int .i64 c, .int .i64 n]), recovered := true }] ∧ EN w' a b c n ∧ Ch (fun k => k = a ∨ k = b) w w' := by
  refine callsD_of_wpS Try.func35 rfl fun c₀ cs hu => ?_
  apply wpS_seq
  apply wpS_region
  simp [wpOpsS, go_sem, recoverD, hu, Try.ntmps35, Exit.thenS, flt]
  rw [show (#[Value.pointer (some ⟨a, 0, none⟩), Value.pointer (some ⟨b, 0, none⟩)] ++ (Array.replicate 13 undef).setIfInBounds 3 (Value.iface 66 (Value.agg #[Value.int IntKind.i64 c, .int .i64 n]))) = #[Value.pointer (some ⟨a, 0, none⟩), Value.pointer (some ⟨b, 0, none⟩), undef, undef, undef, Value.iface 66 (Value.agg #[Value.int IntKind.i64 c, .int .i64 n]), undef, undef, undef, undef, undef, undef, undef, undef, undef] from rfl]
  refine wpS_of_wp ?_
  refine wp_mono (Q := fun e a' w' => e = .normal ∧ a'.defers = [] ∧ EN w' a b c n ∧ Ch (fun k => k = a ∨ k = b) w w') ?_ ?_
  · clear hu
    have hta := assert_flt
    obtain ⟨h0, h1, f0, f1⟩ := h.cells
    have ha := (Array.getElem?_eq_some_iff.1 h.1).1
    have hb := (Array.getElem?_eq_some_iff.1 h.2).1
    have hne := h.ne
    have H := Lib.hid h
    clear h
    go_wp2
    go_region
    go_wp2
    have hs : EN ((((w.setCell ⟨a, 0, none⟩ (.int .i64 c)).setCell ⟨b, 0, none⟩ (.int .i64 n)).alloc (.cells #[.int .i64 c, .int .i64 n] 66)).drew) a b c n := (H.out.set (c2 := c) (n2 := n)).kp (kp_new (below_alloc _ _).drew _) (kp_new (below_alloc _ _).drew _)
    have hc : Ch (fun k => k = a ∨ k = b) w ((((w.setCell ⟨a, 0, none⟩ (.int .i64 c)).setCell ⟨b, 0, none⟩ (.int .i64 n)).alloc (.cells #[.int .i64 c, .int .i64 n] 66)).drew) :=
      (((ch_set w a 0 (.int .i64 c)).imp fun _ _ e => .inl e).trans ((ch_set _ b 0 (.int .i64 n)).imp fun _ _ e => .inr e)).trans (ch_new (below_alloc _ _).drew _)
    exact ⟨hs, hc⟩
  · rintro e a' w' ⟨rfl, hd, h1, h2⟩
    exact ⟨hd, _, rfl, .tuple #[], by simp [results, Try.results35], rfl, rfl, h1, h2⟩
set_option maxRecDepth 100000 in
theorem guard1_idle (a b : Nat) (w : World) :
    CallsD Try.prog 35 #[.pointer (some ⟨a, 0, none⟩), .pointer (some ⟨b, 0, none⟩)] .returning w fun e u' w' => e = .returned (.tuple #[]) ∧ u' = .returning ∧ w' = w := by
  refine callsD_of_wpS Try.func35 rfl fun c₀ cs hu => ?_
  apply wpS_seq
  apply wpS_region
  simp [wpOpsS, go_sem, recoverD, hu, Try.ntmps35, Exit.thenS]
  rw [show (#[Value.pointer (some ⟨a, 0, none⟩), Value.pointer (some ⟨b, 0, none⟩)] ++ (Array.replicate 13 undef).setIfInBounds 3 Value.nilIface) = #[Value.pointer (some ⟨a, 0, none⟩), Value.pointer (some ⟨b, 0, none⟩), undef, undef, undef, Value.nilIface, undef, undef, undef, undef, undef, undef, undef, undef, undef] from rfl]
  refine wpS_of_wp ?_
  refine wp_mono (Q := fun e a' w' => e = .normal ∧ a'.defers = [] ∧ w' = w) ?_ ?_
  · clear hu
    go_wp2
  · rintro e a' w' ⟨rfl, hd, rfl⟩
    exact ⟨hd, .returning, by cases c₀; simp_all, .tuple #[], by simp [results, Try.results35], rfl, rfl, rfl⟩
theorem en_start (w : World) : EN ((w.alloc (.cells #[.int .i64 0] 3)).alloc (.cells #[.int .i64 0] 39)) w.heap.size (w.heap.size + 1) 0 0 := by
  have h := heap_alloc_new (w.alloc (.cells #[.int .i64 0] 3)) (.cells #[.int .i64 0] 39)
  rw [World.size_alloc] at h
  exact ⟨(Below.heap_alloc _ _ _ (by simp)).trans (heap_alloc_new w _), h⟩
theorem guard_results (tmps : Array Value) (w : World) {a b : Nat} {c n : Int} (h : EN w a b c n) (h2 : tmps.getD 2 undef = .pointer (some ⟨a, 0, none⟩)) (h3 : tmps.getD 3 undef = .pointer (some ⟨b, 0, none⟩)) :
    (results Try.f26 tmps).run Try.prog w = .ok (.tuple #[.int .i64 c, .int .i64 n]) w := by
  obtain ⟨g0, g1, -, -⟩ := h.cells
  simp at h2 h3
  simp [results, Try.results26, go_sem, h2, h3, g0, g1]
set_option maxHeartbeats 1000000 in
theorem guard_ok (f : FuncId) (cap : Array Value) (w : World) (d : Int) (P : World → Prop) (hcf : ∀ (w : World), (callFunc f cap).run Try.prog w = .ok (.enter f cap) w)
    (hf : ∀ w1, Below w.heap.size w w1 → w1.heap.size = w.heap.size + 2 → EN w1 w.heap.size (w.heap.size + 1) 0 0 → Calls Try.prog f cap w1 fun e w' => e = .returned (.int .i64 d) ∧ EN w' w.heap.size (w.heap.size + 1) 0 0 ∧ P w') :
    Calls Try.prog 26 #[.func (.func f) #[] cap] w fun e w' => e = .returned (.tuple #[.int .i64 d, .int .i64 0]) ∧ ∃ w2, P w2 ∧ Ch (fun k => k = w.heap.size ∨ k = w.heap.size + 1) w2 w' := by
  have hmf : ∀ (fn : Fn) (first cap : Array Value) (w : World), (Instr.makeFunc fn first cap).run Try.prog w = .ok (.func fn first cap) w := fun _ _ _ _ => rfl
  have HF := Lib.hid (hf _ ((below_alloc w (.cells #[.int .i64 0] 3)).alloc (by simp) (.cells #[.int .i64 0] 39)) (by simp) (en_start w))
  clear hf
  go_enter_defers Try.func26, Try.ntmps26
  go_wp2_with fail
  refine HF.out.mono ?_
  rintro e w2 ⟨rfl, hE, hP⟩
  obtain ⟨h0, h1, f0, f1⟩ := hE.cells
  have hE2 := hE.set (c2 := d) (n2 := 0)
  have hC2 : Ch (fun k => k = w.heap.size ∨ k = w.heap.size + 1) w2 ((w2.setCell ⟨w.heap.size, 0, none⟩ (.int .i64 d)).setCell ⟨w.heap.size + 1, 0, none⟩ (.int .i64 0)) := ((ch_set w2 w.heap.size 0 (.int .i64 d)).imp fun _ _ e => .inl e).trans ((ch_set _ (w.heap.size + 1) 0 (.int .i64 0)).imp fun _ _ e => .inr e)
  have HE2 := Lib.hid hE2
  have HC2 := Lib.hid hC2
  have HP := Lib.hid hP
  clear hE hE2 hC2 hP HF hcf hmf
  go_wp2
  refine leaves_cons (f := 35) (args := #[.pointer (some ⟨w.heap.size, 0, none⟩), .pointer (some ⟨w.heap.size + 1, 0, none⟩)]) (by simp) (by simp [go_sem]) ?_
  refine (guard1_idle _ _ _).mono ?_
  rintro e u' w'' ⟨rfl, rfl, rfl⟩
  exact ⟨_, guard_results _ _ HE2.out rfl rfl, rfl, w2, HP.out, HC2.out⟩
set_option maxHeartbeats 1000000 in
theorem guard_bad (f : FuncId) (cap : Array Value) (w : World) (c n : Int) (P : World → Prop) (hcf : ∀ (w : World), (callFunc f cap).run Try.prog w = .ok (.enter f cap) w)
    (hf : ∀ w1, Below w.heap.size w w1 → w1.heap.size = w.heap.size + 2 → EN w1 w.heap.size (w.heap.size + 1) 0 0 → Calls Try.prog f cap w1 fun e w' => e = .panicked (flt c n) ∧ EN w' w.heap.size (w.heap.size + 1) 0 0 ∧ P w') :
    Calls Try.prog 26 #[.func (.func f) #[] cap] w fun e w' => e = .returned (.tuple #[.int .i64 c, .int .i64 n]) ∧ ∃ w2, P w2 ∧ Ch (fun k => k = w.heap.size ∨ k = w.heap.size + 1) w2 w' := by
  have hmf : ∀ (fn : Fn) (first cap : Array Value) (w : World), (Instr.makeFunc fn first cap).run Try.prog w = .ok (.func fn first cap) w := fun _ _ _ _ => rfl
  have HF := Lib.hid (hf _ ((below_alloc w (.cells #[.int .i64 0] 3)).alloc (by simp) (.cells #[.int .i64 0] 39)) (by simp) (en_start w))
  clear hf
  go_enter_defers Try.func26, Try.ntmps26
  go_wp2_with fail
  refine HF.out.mono ?_
  rintro e w2 ⟨rfl, hE, hP⟩
  refine leaves_cons (f := 35) (args := #[.pointer (some ⟨w.heap.size, 0, none⟩), .pointer (some ⟨w.heap.size + 1, 0, none⟩)]) (by simp) (by simp [go_sem]) ?_
  refine (guard1_panic _ _ c 0 n 0 _ hE).mono ?_
  rintro e u' w'' ⟨rfl, rfl, hE2, hC2⟩
  exact ⟨_, guard_results _ _ hE2 rfl rfl, rfl, w2, hP, hC2⟩
end Go.Proofs.Ytcebafeaikipmaa

namespace Go.Proofs.Ytcebafeaikipmaa
open Go.RowKit
open S15 (SAns SolveR AnsOk AnsPb)

theorem may_same (v : Int) (C : List (List Int)) : S15.satMayN v C = satMayN v C := rfl
theorem blamed_some {items : List ItemD} {wss : List (List (List Int))} {r : Int} (hm : mayN items.length r wss = 0) : blamedB items wss r = !S15.someN (allCls items wss r) items.length := by
  cases h : S15.someN (allCls items wss r) items.length with
  | true =>
    obtain ⟨o, ho, hs⟩ := S15.someN_iff.1 h
    exact (blamed_iff hm).2 ⟨o, ho, hs⟩
  | false =>
    cases e : blamedB items wss r with
    | true => rfl
    | false =>
      obtain ⟨o, ho, hs⟩ := (blamed_iff hm).1 e
      rw [S15.someN_iff.2 ⟨o, ho, hs⟩] at h; cases h
def OpnC (items : List ItemD) (wss : List (List (List Int))) (r : Int) (most : Nat) : Prop := ∃ u, SolveR (allCls items wss r) items.length most (.opn u)
/-- how a call ends that was to tell of a deal whether it is blamed -/
def IbR (items : List ItemD) (wss : List (List (List Int))) (r most : Int) : Except (Int × Int) Bool → Prop
  | .error (x, y) => (mayN items.length r wss ≠ 0 ∧ x = 0 ∧ y = errOf (mayN items.length r wss)) ∨ (mayN items.length r wss = 0 ∧ most < 0 ∧ x = 0 ∧ y = 1) ∨ (mayN items.length r wss = 0 ∧ 0 ≤ most ∧ OpnC items wss r most.toNat ∧ x = 3 ∧ y = 0)
  | .ok b => mayN items.length r wss = 0 ∧ 0 ≤ most ∧ ¬ OpnC items wss r most.toNat ∧ b = blamedB items wss r
theorem ibR_some (items : List ItemD) (wss : List (List (List Int))) (r most : Int) : ∃ o, IbR items wss r most o := by
  by_cases h1 : mayN items.length r wss = 0
  · by_cases h2 : most < 0
    · exact ⟨.error (0, 1), .inr (.inl ⟨h1, h2, rfl, rfl⟩)⟩
    · by_cases h3 : OpnC items wss r most.toNat
      · exact ⟨.error (3, 0), .inr (.inr ⟨h1, by omega, h3, rfl, rfl⟩)⟩
      · exact ⟨.ok _, h1, by omega, h3, rfl⟩
  · exact ⟨.error (0, errOf (mayN items.length r wss)), .inl ⟨h1, rfl, rfl⟩⟩
theorem lits_all {items : List ItemD} {wss : List (List (List Int))} {r : Int} (h : satMayN items.length (allCls items wss r) = 0) : (allCls items wss r).length ≤ 16384 ∧ ∀ C ∈ allCls items wss r, ∀ m ∈ C, m ≠ 0 ∧ m.natAbs ≤ items.length := by
  obtain ⟨_, h2, _, h4⟩ := S15.may_facts h
  exact ⟨h2, h4⟩
theorem cls_light {items : List ItemD} {wss : List (List (List Int))} {r : Int} (hm : mayN items.length r wss = 0) (hl : lightC items.length wss = true) : satMayN items.length (allCls items wss r) = 0 := by
  obtain ⟨h1, h2, h3⟩ := lightC_W hl
  have hw := lightC_lightW hl
  refine satMay_all hm hw ?_
  have e1 := wcls_len hw 0
  have e2 := pairsTo_len items items.length
  simp only [allCls, headCls, List.length_append, List.length_cons]
  have : items.length * items.length ≤ 7 * 7 := Nat.mul_le_mul h1 h1
  omega
theorem never_open {items : List ItemD} {wss : List (List (List Int))} {r : Int} {most : Nat} (hm : mayN items.length r wss = 0) (hl : lightC items.length wss = true) (h : 512 ≤ most) : ¬ OpnC items wss r most := by
  rintro ⟨u, hu⟩
  obtain ⟨h1, h2⟩ := lits_all (cls_light hm hl)
  exact S15.SolveR.not_opn7 h2 (lightC_W hl).1 h1 h hu u rfl
/-- with five items and a hundred conflicts, too -/
theorem never_open5 {items : List ItemD} {wss : List (List (List Int))} {r : Int} (hm : mayN items.length r wss = 0) (hl : lightC items.length wss = true) (h5 : items.length ≤ 5) : ¬ OpnC items wss r 100 := by
  rintro ⟨u, hu⟩
  obtain ⟨h1, h2⟩ := lits_all (cls_light hm hl)
  exact S15.SolveR.not_opnB (B := 32) (J := 0) h2 (by omega) (Nat.pow_le_pow_right (by omega) h5 : 2 ^ items.length ≤ 2 ^ 5) (by decide) h1 (by omega) hu u rfl
theorem told {items : List ItemD} {wss : List (List (List Int))} {r : Int} {most : Nat} {a : SAns} (hm : mayN items.length r wss = 0) (hl : lightC items.length wss = true) (ho : AnsOk (allCls items wss r) items.length most a) (hp : AnsPb items.length most a)
    (hn : ∀ u, a ≠ .opn u) : blamedB items wss r = !S15.isSat a := by
  obtain ⟨h1, h2⟩ := lits_all (cls_light hm hl)
  rw [blamed_some hm, S15.ans_some h2 ho hp hn]
theorem told_opn {items : List ItemD} {wss : List (List (List Int))} {r : Int} {most : Nat} {a : SAns} (hm : mayN items.length r wss = 0) (hl : lightC items.length wss = true) (hmost : most ≤ 200 ∨ 512 ≤ most) (hs : SolveR (allCls items wss r) items.length most a) :
    OpnC items wss r most ↔ ∃ u, a = .opn u := by
  obtain ⟨h1, h2⟩ := lits_all (cls_light hm hl)
  have h7 := (lightC_W hl).1
  constructor
  · rintro ⟨u, hu⟩
    rcases hmost with h | h
    · exact ⟨u, S15.SolveR.unique h2 (by omega) h1 h hs hu⟩
    · exact absurd ⟨u, hu⟩ (never_open hm hl h)
  · rintro ⟨u, rfl⟩; exact ⟨u, hs⟩
end Go.Proofs.Ytcebafeaikipmaa
