/- All. -/
import Derived.Test.YtpgdioopkcfjdaaPrX13
import Derived.Test.YtpgdioopkcfjdaaPrS4
namespace Go.Proofs.Ytpgdioopkcfjdaa
open Go.RowKit

theorem allP_ne {L : PL} {cn : Int × Bs} : ∀ (U D acc : PL), (allP L U D acc).1 = some cn → cn.1 ≠ 0
  | [], _, _, h => by cases h
  | p :: U, D, acc, h => by
    unfold allP at h
    cases hv : valP L 32 [] D p.1 with
    | mk x dn =>
      rw [hv] at h
      cases x with
      | ok v => exact allP_ne U _ _ h
      | loop n => cases h; exact (by decide : (22 : Int) ≠ 0)
      | big n => cases h; exact (by decide : (2 : Int) ≠ 0)
theorem callFunc_all : ∀ (args : Array Value) (w : World), (callFunc 36 args).run Try.prog w = .ok (.enter 36 args) w := callFunc_run Try.func36 (by kernel_rfl) (by kernel_rfl)
theorem guard_all {m : Int} {B T R Dn : Nat} {lv : Value} {L U : PL} (hB : 0 < B) (hL : ∀ p ∈ L, p.2.length ≤ 1000000) (hU : ∀ p ∈ U, (lookP L p.1).isSome = true ∧ p.1.length ≤ 1000000) (hUl : U.length ≤ 1000) (done : PL) (w : World) (n : Nat) (hn : n + 2 ≤ w.heap.size) (hm : MaxAt m w) (ht : TabAt w B T R Dn lv L U done) (hx : AlB w n T (.slice none 0 0)) (hBn : B ≤ n) :
    Calls Try.prog 29 #[.func (.func 36) #[] #[.pointer (some ⟨n, 0, none⟩), .pointer (some ⟨n + 1, 0, none⟩)]] w fun e w' =>
      e = .returned (.tuple #[.int .i64 (allE (allP L U done [])), sv (allN (allP L U done []))]) ∧ (∃ v, AlB w' n T v ∧ POwn w' (w.heap.size + 2) v (allP L U done []).2.1) ∧ Ch (fun k => ChT T Dn k ∨ k = n + 1) w w' := by
  obtain ⟨RR, hR⟩ : ∃ RR, RR = allP L U done [] := ⟨_, rfl⟩
  have hf : ∀ w1, Below w.heap.size w w1 → w1.heap.size = w.heap.size + 2 → EN w1 w.heap.size (w.heap.size + 1) 0 [] → Calls Try.prog 36 #[.pointer (some ⟨n, 0, none⟩), .pointer (some ⟨n + 1, 0, none⟩)] w1 fun e w' =>
      (match RR.1 with | none => e = .returned (.tuple #[]) | some cn => e = .panicked (flt cn.1 cn.2)) ∧ EN w' w.heap.size (w.heap.size + 1) 0 [] ∧ ((∃ v, AlB w' n T v ∧ POwn w' (w.heap.size + 2) v RR.2.1) ∧ Ch (fun k => ChT T Dn k ∨ k = n + 1) w w') := by
    intro w1 hb hsz he
    refine (all1_any hB hL hU hUl done w1 n w.heap.size (w.heap.size + 1) (hm.below hb (by omega)) (ht.new hb) (hx.kp (kp_new hb _) (kp_new hb _)) he (by omega) hBn).mono ?_
    rintro e w' ⟨h1, h2, h3, ⟨v, h4, h5⟩, h6⟩
    rw [← hR] at h1 h5
    rw [hsz] at h5
    exact ⟨h1, h2, ⟨v, h4, h5⟩, (ch_new hb _).trans h6⟩
  have hfin : ∀ (w2 w' : World), ((∃ v, AlB w2 n T v ∧ POwn w2 (w.heap.size + 2) v RR.2.1) ∧ Ch (fun k => ChT T Dn k ∨ k = n + 1) w w2) → Ch (fun k => k = w.heap.size ∨ k = w.heap.size + 1) w2 w' → (∃ v, AlB w' n T v ∧ POwn w' (w.heap.size + 2) v RR.2.1) ∧ Ch (fun k => ChT T Dn k ∨ k = n + 1) w w' := by
    rintro w2 w' ⟨⟨v, h4, h5⟩, h6⟩ hc
    refine ⟨⟨v, h4.kp (hc.kp (by omega)) (hc.kp (by omega)), own_kp h5 fun g hg => hc.kp ?_⟩, h6.up hc (by rintro k (rfl | rfl) <;> right <;> omega)⟩
    have := (POwn.lt h5 g hg).1
    omega
  rw [← hR]
  cases hr : RR.1 with
  | none =>
    refine (guard_ok 36 _ w _ (fun w => callFunc_all _ w) (fun w1 a b c => (hf w1 a b c).mono fun e w' h => by rw [hr] at h; exact h)).mono ?_
    rintro e w' ⟨h1, w2, h2, h3⟩
    exact ⟨by rw [h1]; unfold allE allN; rw [hr], hfin w2 w' h2 h3⟩
  | some cn =>
    refine (guard_bad 36 _ w cn.1 cn.2 _ (fun w => callFunc_all _ w) (fun w1 a b c => (hf w1 a b c).mono fun e w' h => by rw [hr] at h; exact h)).mono ?_
    rintro e w' ⟨h1, w2, h2, h3⟩
    exact ⟨by rw [h1]; unfold allE allN; rw [hr], hfin w2 w' h2 h3⟩
theorem alb_start (w : World) (T : Nat) : AlB ((w.alloc (.cells #[.pointer (some ⟨T, 0, none⟩)] 25)).alloc (.cells #[.slice none 0 0] 22)) w.heap.size T (.slice none 0 0) := by
  have h1 := heap_alloc_new w (.cells #[.pointer (some ⟨T, 0, none⟩)] 25)
  have h2 := heap_alloc_new (w.alloc (.cells #[.pointer (some ⟨T, 0, none⟩)] 25)) (.cells #[.slice none 0 0] 22)
  simp only [World.size_alloc] at h2
  exact ⟨(Below.heap_alloc _ _ _ (by simp)).trans h1, h2⟩
theorem all_results (tmps : Array Value) (w : World) {n : Nat} {v : Value} (h : w.cell? ⟨n, 0, none⟩ = some v) (h2 : tmps.getD 2 undef = .pointer (some ⟨n, 0, none⟩)) :
    (results Try.f22 tmps).run Try.prog w = .ok (.tuple #[v, tmps.getD 3 undef, tmps.getD 4 undef]) w := by
  simp at h2
  simp [results, Try.results22, go_sem, h2, h]
set_option maxHeartbeats 2000000 in
theorem All_any {m : Int} {B T R Dn : Nat} {lv : Value} {L U : PL} (hB : 0 < B) (hL : ∀ p ∈ L, p.2.length ≤ 1000000) (hU : ∀ p ∈ U, (lookP L p.1).isSome = true ∧ p.1.length ≤ 1000000) (hUl : U.length ≤ 1000) (done : PL) (w : World) (hm : MaxAt m w) (ht : TabAt w B T R Dn lv L U done) :
    Calls Try.prog 22 #[.pointer (some ⟨T, 0, none⟩)] w fun e w' => ∃ v, e = .returned (.tuple #[v, .int .i64 (allE (allP L U done [])), sv (allN (allP L U done []))]) ∧ POwn w' (w.heap.size + 4) v (allL (allP L U done [])) ∧ Ch (ChT T Dn) w w' := by
  have hmf : ∀ (fn : Fn) (first cap : Array Value) (w : World), (Instr.makeFunc fn first cap).run Try.prog w = .ok (.func fn first cap) w := fun _ _ _ _ => rfl
  obtain ⟨w3, hw3⟩ : ∃ w3, w3 = ((w.alloc (.cells #[.pointer (some ⟨T, 0, none⟩)] 25)).alloc (.cells #[.slice none 0 0] 22)) := ⟨_, rfl⟩
  have hb3 : Below w.heap.size w w3 := by rw [hw3]; exact (below_alloc _ _).alloc (by simp) _
  have hx3 : AlB w3 w.heap.size T (.slice none 0 0) := by rw [hw3]; exact alb_start w T
  have hsz3 : w3.heap.size = w.heap.size + 2 := by rw [hw3]; simp
  have hBw : B ≤ w.heap.size := by have := ht.lo.1; have := (Array.getElem?_eq_some_iff.1 ht.hT).1; omega
  have HB3 := Lib.hid hb3
  have HG := Lib.hid (guard_all hB hL hU hUl done w3 w.heap.size (Nat.le_of_eq hsz3.symm) (hm.below hb3 hm.lt) (ht.new hb3) hx3 hBw)
  rw [hsz3] at HG
  obtain ⟨x0, -, -⟩ := hx3.cells
  have He : (⟨#[]⟩ : ByteArray) = bz [] := rfl
  have Hw3 := Lib.hid hw3
  obtain ⟨RR, hR⟩ : ∃ RR, RR = allP L U done [] := ⟨_, rfl⟩
  rw [← hR] at HG ⊢
  clear hm ht hb3 hx3 hsz3 hBw
  obtain ⟨n, hn⟩ : ∃ n, n = w.heap.size := ⟨_, rfl⟩
  have Hn := Lib.hid hn
  rw [← hn] at x0 HG ⊢
  clear hw3 hn
  cases hr : RR.1 with
  | none =>
    have e0 : allE RR = 0 := by unfold allE; rw [hr]
    have e1 : allN RR = [] := by unfold allN; rw [hr]
    have e2 : allL RR = RR.2.1 := by unfold allL; rw [hr]
    rw [e0, e1] at HG ⊢
    rw [e2]
    clear hr e0 e1 e2 hR
    go_enter Try.func22, Try.ntmps22
    go_wp2_with fail
    rw [← Hn.out]
    rw [show ((w.alloc (.cells #[.pointer (some ⟨T, 0, none⟩)] 25)).alloc (.cells #[.slice none 0 0] 22)) = w3 from Hw3.out.symm]
    refine HG.out.mono ?_
    rintro e w4 ⟨rfl, ⟨v, h1, h2⟩, h3⟩
    obtain ⟨Av, cv, rfl⟩ := h2.shape
    obtain ⟨y0, y1, g2⟩ := h1.cells
    have HX4 := Lib.hid h1
    have HP4 := Lib.hid h2
    have HC4 := Lib.hid h3
    have HY := Lib.hid (h1.set (.slice Av RR.2.1.length cv)).cells.2.1
    clear h1 h2 h3 x0 HG
    go_wp2
    refine bodyPost_ret (all_results (n := n + 1) _ _ HY.out rfl) rfl ?_
    have hn := Hn.out
    refine ⟨_, rfl, own_kp HP4.out fun g hg => (ch_set w4 (n + 1) 0 _).kp ?_, ?_⟩
    · have := (POwn.lt HP4.out g hg).1
      omega
    · exact ((ch_new HB3.out _).up HC4.out (by rintro k (e | rfl); · exact .inl e
                                               · exact .inr (by omega))).up (ch_set w4 (n + 1) 0 _) (by rintro k rfl; exact .inr (by omega))
  | some cn =>
    have e2 : allL RR = [] := by unfold allL; rw [hr]
    have e0 : (allE RR != 0) = true := by unfold allE; rw [hr]; exact bne_iff_ne.2 (allP_ne _ _ _ (by rw [← hR]; exact hr))
    rw [e2]
    generalize allE RR = c0 at *
    generalize allN RR = n0 at *
    clear hr e2 hR
    go_enter Try.func22, Try.ntmps22
    go_wp2_with fail
    rw [← Hn.out]
    rw [show ((w.alloc (.cells #[.pointer (some ⟨T, 0, none⟩)] 25)).alloc (.cells #[.slice none 0 0] 22)) = w3 from Hw3.out.symm]
    refine HG.out.mono ?_
    rintro e w4 ⟨rfl, ⟨v, h1, h2⟩, h3⟩
    obtain ⟨Av, cv, rfl⟩ := h2.shape
    obtain ⟨y0, y1, g2⟩ := h1.cells
    have HX4 := Lib.hid h1
    have HC4 := Lib.hid h3
    have HY := Lib.hid (h1.set (.slice none 0 0)).cells.2.1
    clear h1 h2 h3 x0 HG
    go_wp2
    refine bodyPost_ret (all_results (n := n + 1) _ _ HY.out rfl) rfl ?_
    have hn := Hn.out
    refine ⟨_, rfl, POwn.nil _ _, ?_⟩
    exact ((ch_new HB3.out _).up HC4.out (by rintro k (e | rfl); · exact .inl e
                                             · exact .inr (by omega))).up (ch_set w4 (n + 1) 0 _) (by rintro k rfl; exact .inr (by omega))
end Go.Proofs.Ytpgdioopkcfjdaa
