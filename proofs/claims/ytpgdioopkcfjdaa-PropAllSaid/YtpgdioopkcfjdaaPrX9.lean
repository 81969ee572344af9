/- Expand: of a table; of none. Known. -/
import Derived.Test.YtpgdioopkcfjdaaPrX8
namespace Go.Proofs.Ytpgdioopkcfjdaa
open Go.RowKit

theorem exb_start (w : World) (T : Nat) (s : Bs) : ExB (((w.alloc (.cells #[.pointer (some ⟨T, 0, none⟩)] 25)).alloc (.cells #[sv s] 9)).alloc (.cells #[sv []] 9)) w.heap.size T s [] := by
  have h1 := heap_alloc_new w (.cells #[.pointer (some ⟨T, 0, none⟩)] 25)
  have h2 := heap_alloc_new (w.alloc (.cells #[.pointer (some ⟨T, 0, none⟩)] 25)) (.cells #[sv s] 9)
  have h3 := heap_alloc_new ((w.alloc (.cells #[.pointer (some ⟨T, 0, none⟩)] 25)).alloc (.cells #[sv s] 9)) (.cells #[sv []] 9)
  simp only [World.size_alloc] at h2 h3
  exact ⟨(Below.heap_alloc _ _ _ (by simp; omega)).trans ((Below.heap_alloc _ _ _ (by simp)).trans h1), (Below.heap_alloc _ _ _ (by simp)).trans h2, h3⟩
theorem exp_results (tmps : Array Value) (w : World) {n : Nat} {v : Bs} (h : w.cell? ⟨n, 0, none⟩ = some (sv v)) (h2 : tmps.getD 4 undef = .pointer (some ⟨n, 0, none⟩)) :
    (results Try.f13 tmps).run Try.prog w = .ok (.tuple #[sv v, tmps.getD 5 undef, tmps.getD 6 undef]) w := by
  simp at h2
  simp [results, Try.results13, go_sem, h2, h]
/-- the table, where only boxes of a call's own have changed -/
theorem TabAt.kp_lt {w w' : World} {B T R Dn : Nat} {lv : Value} {L U done done0 : PL} {w0 : World} {D : Nat → Prop} (ht : TabAt w B T R Dn lv L U done) (h0 : TabAt w0 B T R Dn lv L U done0) (hc : Ch D w w') (hD : ∀ k, D k → w0.heap.size ≤ k) : TabAt w' B T R Dn lv L U done := by
  have key : ∀ {k : Nat}, k < w0.heap.size → Kp w w' k := fun {k} hk => hc.kp fun hd => by have := hD k hd; omega
  obtain ⟨es, c, hR⟩ := h0.raw.obj
  obtain ⟨es', c', hDn⟩ := h0.dn.obj
  exact ht.kp (key (Array.getElem?_eq_some_iff.1 h0.hT).1) (key (Array.getElem?_eq_some_iff.1 hR).1) (key (Array.getElem?_eq_some_iff.1 hDn).1) fun g hg => key (h0.own.lt g hg).2
theorem Ch.up {D D' : Nat → Prop} {w w1 w2 : World} (h : Ch D w w1) (h2 : Ch D' w1 w2) (hD : ∀ k, D' k → D k ∨ w.heap.size ≤ k) : Ch D w w2 :=
  ⟨h2.os.trans h.os, h2.tape.trans h.tape, h2.output.trans h.output, Nat.le_trans h.size h2.size, fun k hk hd => (h2.block k (Nat.lt_of_lt_of_le hk h.size) (fun e => (hD k e).elim hd (fun e => by omega))).trans (h.block k hk hd)⟩
/-- what guard does with Expand's closure -/
theorem guard_exp_ok {m : Int} {B T R Dn : Nat} {lv : Value} {L U done : PL} (hB : 0 < B) (hL : ∀ p ∈ L, p.2.length ≤ 1000000) (s v : Bs) (dn : PL) (w : World) (n : Nat) (hn : n + 3 ≤ w.heap.size) (hm : MaxAt m w) (ht : TabAt w B T R Dn lv L U done) (hs : s.length ≤ 1000000) (hx : ExB w n T s []) (hr : expP L done s = (.ok v, dn)) :
    Calls Try.prog 29 #[.func (.func 30) #[] #[.pointer (some ⟨n, 0, none⟩), .pointer (some ⟨n + 1, 0, none⟩), .pointer (some ⟨n + 2, 0, none⟩)]] w fun e w' =>
      e = .returned (.tuple #[.int .i64 0, sv []]) ∧ TabAt w' B T R Dn lv L U dn ∧ ExB w' n T s v ∧ Ch (fun k => ChT T Dn k ∨ k = n + 2) w w' := by
  have hB' : B ≤ w.heap.size := by have := ht.lo.1; have := (Array.getElem?_eq_some_iff.1 ht.hT).1; omega
  refine (guard_ok 30 _ w (fun w' => TabAt w' B T R Dn lv L U dn ∧ ExB w' n T s v ∧ Ch (fun k => ChT T Dn k ∨ k = n + 2) w w') (fun w => callFunc_exp _ w) ?_).mono ?_
  · intro w1 hb hsz he
    refine (exp1_ok hB hL s [] v dn w1 n w.heap.size (w.heap.size + 1) (hm.below hb (by omega)) (ht.new hb) hs (hx.kp (kp_new hb _) (kp_new hb _) (kp_new hb _)) he (by omega) hr).mono ?_
    rintro e w' ⟨h1, h2, h3, h4, h5⟩
    exact ⟨h1, h2, h3, h4, (ch_new hb _).trans h5⟩
  · rintro e w' ⟨h1, w2, ⟨h3, h4, h5⟩, h6⟩
    have key : ∀ {k : Nat}, k < w.heap.size → Kp w2 w' k := fun {k} hk => h6.kp (by omega)
    exact ⟨h1, h3.kp_lt ht h6 (by rintro k (rfl | rfl) <;> omega), h4.kp (key (by omega)) (key (by omega)) (key (by omega)), h5.up h6 (by rintro k (rfl | rfl) <;> right <;> omega)⟩
theorem guard_exp_bad {m : Int} {B T R Dn : Nat} {lv : Value} {L U done : PL} (hB : 0 < B) (hL : ∀ p ∈ L, p.2.length ≤ 1000000) (s : Bs) (c : Int) (nm : Bs) (w : World) (n : Nat) (hn : n + 3 ≤ w.heap.size) (hm : MaxAt m w) (ht : TabAt w B T R Dn lv L U done) (hs : s.length ≤ 1000000) (hx : ExB w n T s []) (hr : badOf (expP L done s).1 = some (c, nm)) :
    Calls Try.prog 29 #[.func (.func 30) #[] #[.pointer (some ⟨n, 0, none⟩), .pointer (some ⟨n + 1, 0, none⟩), .pointer (some ⟨n + 2, 0, none⟩)]] w fun e w' =>
      e = .returned (.tuple #[.int .i64 c, sv nm]) ∧ TabAt w' B T R Dn lv L U (expP L done s).2 ∧ ExB w' n T s [] ∧ Ch (fun k => ChT T Dn k ∨ k = n + 2) w w' := by
  have hB' : B ≤ w.heap.size := by have := ht.lo.1; have := (Array.getElem?_eq_some_iff.1 ht.hT).1; omega
  refine (guard_bad 30 _ w c nm (fun w' => TabAt w' B T R Dn lv L U (expP L done s).2 ∧ ExB w' n T s [] ∧ Ch (fun k => ChT T Dn k ∨ k = n + 2) w w') (fun w => callFunc_exp _ w) ?_).mono ?_
  · intro w1 hb hsz he
    refine (exp1_bad hB hL s [] c nm w1 n w.heap.size (w.heap.size + 1) (hm.below hb (by omega)) (ht.new hb) hs (hx.kp (kp_new hb _) (kp_new hb _) (kp_new hb _)) he hr).mono ?_
    rintro e w' ⟨h1, h2, h3, h4, h5⟩
    exact ⟨h1, h2, h3, h4, (ch_new hb _).trans h5⟩
  · rintro e w' ⟨h1, w2, ⟨h3, h4, h5⟩, h6⟩
    have key : ∀ {k : Nat}, k < w.heap.size → Kp w2 w' k := fun {k} hk => h6.kp (by omega)
    exact ⟨h1, h3.kp_lt ht h6 (by rintro k (rfl | rfl) <;> omega), h4.kp (key (by omega)) (key (by omega)) (key (by omega)), h5.up h6 (by rintro k (rfl | rfl) <;> right <;> omega)⟩
set_option maxHeartbeats 2000000 in
theorem Expand_ok {m : Int} {B T R Dn : Nat} {lv : Value} {L U done : PL} (hB : 0 < B) (hL : ∀ p ∈ L, p.2.length ≤ 1000000) (s v : Bs) (dn : PL) (w : World) (hm : MaxAt m w) (ht : TabAt w B T R Dn lv L U done) (hs : s.length ≤ 1000000) (hr : expP L done s = (.ok v, dn)) :
    Calls Try.prog 13 #[.pointer (some ⟨T, 0, none⟩), sv s] w fun e w' => e = .returned (.tuple #[sv v, .int .i64 0, sv []]) ∧ TabAt w' B T R Dn lv L U dn ∧ Ch (ChT T Dn) w w' := by
  have hmf : ∀ (fn : Fn) (first cap : Array Value) (w : World), (Instr.makeFunc fn first cap).run Try.prog w = .ok (.func fn first cap) w := fun _ _ _ _ => rfl
  obtain ⟨w3, hw3⟩ : ∃ w3, w3 = (((w.alloc (.cells #[.pointer (some ⟨T, 0, none⟩)] 25)).alloc (.cells #[sv s] 9)).alloc (.cells #[sv []] 9)) := ⟨_, rfl⟩
  have hb3 : Below w.heap.size w w3 := by rw [hw3]; exact ((below_alloc _ _).alloc (by simp) _).alloc (by simp; omega) _
  have hx3 : ExB w3 w.heap.size T s [] := by rw [hw3]; exact exb_start w T s
  have hsz3 : w.heap.size + 3 = w3.heap.size := by rw [hw3]; simp
  have HB3 := Lib.hid hb3
  have HT := Lib.hid ht
  have HG := Lib.hid (guard_exp_ok hB hL s v dn w3 w.heap.size (Nat.le_of_eq hsz3) (hm.below hb3 hm.lt) (ht.new hb3) hs hx3 hr)
  obtain ⟨x0, -, -, -, -⟩ := hx3.cells
  have He : (⟨#[]⟩ : ByteArray) = bz [] := rfl
  have Hw3 := Lib.hid hw3
  clear hm ht hr hb3 hx3 hsz3
  obtain ⟨n, hn⟩ : ∃ n, n = w.heap.size := ⟨_, rfl⟩
  have Hn := Lib.hid hn
  rw [← hn] at x0 HG
  clear hw3 hn
  go_enter Try.func13, Try.ntmps13
  go_wp2_with fail
  rw [← He, ← Hn.out]
  rw [show ((((w.alloc (.cells #[.pointer (some ⟨T, 0, none⟩)] 25)).alloc (.cells #[sv s] 9)).alloc (.cells #[.string ⟨#[]⟩] 9))) = w3 from Hw3.out.symm]
  refine HG.out.mono ?_
  rintro e w4 ⟨rfl, h1, h2, h3⟩
  obtain ⟨-, -, y2, g2, -⟩ := h2.cells
  have HT4 := Lib.hid h1
  have HX4 := Lib.hid h2
  have HC4 := Lib.hid h3
  clear h1 h2 h3 x0 HG
  go_wp2
  refine bodyPost_ret (exp_results (n := n + 2) (v := v) _ _ (Lib.cell_of_heap (heap_setCell_same w4 (n + 2) 0 _ _ _ HX4.out.2.2) 0) rfl) rfl ?_
  have hn := Hn.out
  refine ⟨rfl, HT4.out.kp_lt HT.out (ch_set w4 (n + 2) 0 _) (by rintro k rfl; omega), ?_⟩
  exact ((ch_new HB3.out _).up HC4.out (by rintro k (e | rfl); · exact .inl e
                                           · exact .inr (by omega))).up (ch_set w4 (n + 2) 0 _) (by rintro k rfl; exact .inr (by omega))
set_option maxHeartbeats 2000000 in
theorem Expand_bad {m : Int} {B T R Dn : Nat} {lv : Value} {L U done : PL} (hB : 0 < B) (hL : ∀ p ∈ L, p.2.length ≤ 1000000) (s : Bs) (c : Int) (nm : Bs) (w : World) (hm : MaxAt m w) (ht : TabAt w B T R Dn lv L U done) (hs : s.length ≤ 1000000) (hc : c ≠ 0) (hr : badOf (expP L done s).1 = some (c, nm)) :
    Calls Try.prog 13 #[.pointer (some ⟨T, 0, none⟩), sv s] w fun e w' => e = .returned (.tuple #[sv [], .int .i64 c, sv nm]) ∧ TabAt w' B T R Dn lv L U (expP L done s).2 ∧ Ch (ChT T Dn) w w' := by
  have hmf : ∀ (fn : Fn) (first cap : Array Value) (w : World), (Instr.makeFunc fn first cap).run Try.prog w = .ok (.func fn first cap) w := fun _ _ _ _ => rfl
  obtain ⟨w3, hw3⟩ : ∃ w3, w3 = (((w.alloc (.cells #[.pointer (some ⟨T, 0, none⟩)] 25)).alloc (.cells #[sv s] 9)).alloc (.cells #[sv []] 9)) := ⟨_, rfl⟩
  have hb3 : Below w.heap.size w w3 := by rw [hw3]; exact ((below_alloc _ _).alloc (by simp) _).alloc (by simp; omega) _
  have hx3 : ExB w3 w.heap.size T s [] := by rw [hw3]; exact exb_start w T s
  have hsz3 : w.heap.size + 3 = w3.heap.size := by rw [hw3]; simp
  have HB3 := Lib.hid hb3
  have HT := Lib.hid ht
  have HG := Lib.hid (guard_exp_bad hB hL s c nm w3 w.heap.size (Nat.le_of_eq hsz3) (hm.below hb3 hm.lt) (ht.new hb3) hs hx3 hr)
  obtain ⟨x0, -, -, -, -⟩ := hx3.cells
  have He : (⟨#[]⟩ : ByteArray) = bz [] := rfl
  have Hw3 := Lib.hid hw3
  have hcb : (c != 0) = true := bne_iff_ne.2 hc
  clear hm ht hr hb3 hx3 hsz3 hc
  obtain ⟨n, hn⟩ : ∃ n, n = w.heap.size := ⟨_, rfl⟩
  have Hn := Lib.hid hn
  rw [← hn] at x0 HG
  clear hw3 hn
  go_enter Try.func13, Try.ntmps13
  go_wp2_with fail
  rw [← He, ← Hn.out]
  rw [show ((((w.alloc (.cells #[.pointer (some ⟨T, 0, none⟩)] 25)).alloc (.cells #[sv s] 9)).alloc (.cells #[.string ⟨#[]⟩] 9))) = w3 from Hw3.out.symm]
  refine HG.out.mono ?_
  rintro e w4 ⟨rfl, h1, h2, h3⟩
  obtain ⟨-, -, y2, g2, -⟩ := h2.cells
  have HT4 := Lib.hid h1
  have HX4 := Lib.hid h2
  have HC4 := Lib.hid h3
  clear h1 h2 h3 x0 HG
  go_wp2
  refine bodyPost_ret (exp_results (n := n + 2) (v := []) _ _ (Lib.cell_of_heap (heap_setCell_same w4 (n + 2) 0 _ _ _ HX4.out.2.2) 0) rfl) rfl ?_
  have hn := Hn.out
  refine ⟨rfl, HT4.out.kp_lt HT.out (ch_set w4 (n + 2) 0 _) (by rintro k rfl; omega), ?_⟩
  exact ((ch_new HB3.out _).up HC4.out (by rintro k (e | rfl); · exact .inl e
                                           · exact .inr (by omega))).up (ch_set w4 (n + 2) 0 _) (by rintro k rfl; exact .inr (by omega))
end Go.Proofs.Ytpgdioopkcfjdaa
