/- The law CnfMays, walked. -/
import Derived.Test.YtlaihjhkghbfkaaCnfA
import Derived.Lib.QuietBelow
namespace Go.Proofs.Ytlaihjhkghbfkaa
open Go.RowKit Go.Sort

theorem mayN_cases (n0 : Nat) (r : Int) (wss : List (List (List Int))) : mayN n0 r wss = 0 ∨ mayN n0 r wss = 1 ∨ mayN n0 r wss = 2 := by
  unfold mayN; (repeat' split) <;> omega
theorem errs_cases (n0 : Nat) (r : Int) (wss : List (List (List Int))) : (errOf (mayN n0 r wss) = 0 ∧ ((mayN n0 r wss : Nat) : Int) = 0) ∨ (errOf (mayN n0 r wss) = 1 ∧ ((mayN n0 r wss : Nat) : Int) = 1) ∨ (errOf (mayN n0 r wss) = 2 ∧ ((mayN n0 r wss : Nat) : Int) = 2) := by
  rcases mayN_cases n0 r wss with h | h | h <;> simp [h, errOf]
theorem RArr.shape {α : Type} {n : Nat} {P : RdV α} {w : World} {S : Nat → Prop} {v : Value} {l : List α} (h : RArr n P w S v l) : ∃ A c, v = .slice A l.length c := by
  obtain ⟨A, c, hv, _⟩ := h; exact ⟨A, c, hv⟩
theorem RSl.shape {α : Type} {R : Rd α} {w : World} {S : Nat → Prop} {v : Value} {l : List α} (h : RSl R w S v l) : ∃ A c, v = .slice A l.length c := by
  obtain ⟨A, c, hv, _⟩ := h; exact ⟨A, c, hv⟩

set_option maxRecDepth 100000 in
set_option maxHeartbeats 2000000 in
theorem walk_CnfMays (W : World) (v0 : Value) (a0 : Arg Try.prog W 25 v0) : Calls Try.prog 3 #[v0] W fun e W' => e = .returned (.bool true) ∧ Below W.heap.size W W' := by
  obtain ⟨s0, s1, r, items, wss, rfl, h0, h1, _, _⟩ := arg_deal a0
  have H0 := Lib.hid h0; have H1 := Lib.hid h1
  obtain ⟨A0, c0, rfl⟩ := h0.shape
  obtain ⟨A1, c1, rfl⟩ := h1.shape
  clear h0 h1 a0
  cases hl : lightB items.length wss with
  | false =>
    have Hl := Lib.hid hl; clear hl
    go_enter Try.func3, Try.ntmps3
    go_wp2_with (first
      | (go_at_call 9; refine (light_any _ _ _ _ _ wss _ (RIntsss.stable.up H1.out (below_alloc _ _))).mono ?_; rintro e w1 ⟨rfl, hb⟩; rw [Hl.out])
      | (go_at_call 10; refine (lives_any _).mono ?_; rintro e w2 ⟨rfl, hb2⟩))
    go_ret
    exact ⟨rfl, (below_alloc _ _).trans ((hb.mono (by simp)).trans (hb2.mono (by have := hb.size; simp at this; omega)))⟩
  | true =>
    have Hl := Lib.hid hl; clear hl
    rcases errs_cases items.length r wss with ⟨hm, hn⟩ | ⟨hm, hn⟩ | ⟨hm, hn⟩
    all_goals
      have Hm := Lib.hid hm; have Hn := Lib.hid hn
      clear hm hn
      go_enter Try.func3, Try.ntmps3
      go_wp2_with (first
        | (go_at_call 9; refine (light_any _ _ _ _ _ wss _ (RIntsss.stable.up H1.out (below_alloc _ _))).mono ?_; rintro e w1 ⟨rfl, hb⟩; rw [Hl.out]))
      obtain ⟨hx0, hx1, hx2⟩ := box3 hb
      have hy0 := fun d os => cell_regrown hx0 d os
      have hy1 := fun d os => cell_regrown hx1 d os
      have hy2 := fun d os => cell_regrown hx2 d os
      have Hb1 := Lib.hid ((below_alloc _ _).trans (hb.mono (by simp)))
      clear hb hx0 hx1 hx2
      have hup := fun d os => RIntsss.stable.up H1.out (Hb1.out.trans ((below_regrown w1 d os).mono Hb1.out.size))
      have hc1 := fun d os => May_any A0 items.length c0 (.slice A1 wss.length c1) r wss (grow (redrawn w1 d) os) (hup d os)
      have hc2 := fun d os => refMay_any A0 items.length c0 (.slice A1 wss.length c1) r wss (grow (redrawn w1 d) os) (hup d os)
      rw [Hm.out] at hc1
      rw [Hn.out] at hc2
      have Hc1 := Lib.hid hc1; have Hc2 := Lib.hid hc2
      clear hup hc1 hc2
      have i0 : ∀ w, (Instr.index 30 (.agg #[.int .i64 0, .int .i64 1, .int .i64 2]) (.int .i64 0)).run Try.prog w = .ok (.int .i64 0) w := fun _ => by kernel_rfl
      have i1 : ∀ w, (Instr.index 30 (.agg #[.int .i64 0, .int .i64 1, .int .i64 2]) (.int .i64 1)).run Try.prog w = .ok (.int .i64 1) w := fun _ => by kernel_rfl
      have i2 : ∀ w, (Instr.index 30 (.agg #[.int .i64 0, .int .i64 1, .int .i64 2]) (.int .i64 2)).run Try.prog w = .ok (.int .i64 2) w := fun _ => by kernel_rfl
      refine wp_region_quiet_below (by kernel_rfl) (by kernel_rfl) ?_
      repeat (quiet_step (first
          | (go_at_call 11; exact Calls.regrown_of (Hc1.out _ _))
          | (go_at_call 12; exact Calls.regrown_of (Hc2.out _ _))
          | (go_at_call 10; exact Calls.regrown_of (lives_any _))))
      refine wpQuiet_nil ?_
      intro _ hw'
      obtain ⟨⟨dq, osq⟩, hw''⟩ := hw'
      subst hw''
      go_wp2
      go_ret
      exact ⟨rfl, Hb1.out.trans ((below_regrown w1 dq osq).mono Hb1.out.size)⟩
end Go.Proofs.Ytlaihjhkghbfkaa
