/- The law TrimSolves, walked. -/
import Derived.Test.YtdofiipckcfopaaQTrimK3
import Derived.Test.YtdofiipckcfopaaZa7
import Derived.Test.YtdofiipckcfopaaZm
import Derived.Test.YtdofiipckcfopaaZs
namespace Go.Proofs.Ytdofiipckcfopaa
open Go.RowKit Go.Sort
open S15 (AnsOk AnsPb SolveR SAns ans_some isSat Check_any holds_of RupAll results_row2S set4R)

theorem Way.unitF {vars : Nat} {s t : TrS} (h : Way vars s t) (hs : ∀ u ∈ s.U, u ∈ s.F) : ∀ u ∈ t.U, u ∈ t.F := by
  cases h with
  | unit n hn =>
    intro u hu
    rcases List.mem_append.1 hu with h | h
    · exact List.mem_append_left _ (hs u h)
    · exact List.mem_append_right _ h
  | pure n h1 h2 h3 => exact fun u hu => List.mem_append_left _ (hs u hu)
  | _ => exact hs
theorem Steps.unitF {vars : Nat} {s t : TrS} (h : Steps vars s t) (hs : ∀ u ∈ s.U, u ∈ s.F) : ∀ u ∈ t.U, u ∈ t.F := by
  induction h with
  | refl s => exact hs
  | head _ h2 _ ih => exact ih ((way_of h2).unitF hs)
theorem lit_abs {n : Nat} {C : Cls} (h : clsOk (n : Int).toNat C) : ∀ c ∈ C, ∀ m ∈ c, m.natAbs ≤ n := fun c hc m hm => by
  have := (h c hc).2 m hm
  unfold litOk at this
  omega
/-- what the law is told of the answer -/
def Told (C : Cls) (n : Nat) (w : World) (ev : Int) (tv pv : Value) (n1 n2 : Nat) : Prop :=
  (ev = 1 ∧ n1 = n ∧ n2 = 0 ∧ ∃ g, RBools w (Lt w.heap.size) tv g ∧ holdsI C g = -1) ∨
  (ev = 2 ∧ n1 = 0 ∧ (n ≤ 9 → someN C n = false) ∧ ∃ p p', RIntss w (Lt w.heap.size) pv p ∧ (∀ c ∈ p, ∀ m ∈ c, m ≠ 0 ∧ m.natAbs ≤ n) ∧ p.length ≤ 100000000 ∧ RupAll C p ∧ p = p' ++ [[]]) ∨
  (ev = 3 ∧ 9 < n ∧ n1 = 0 ∧ n2 = 0)
theorem solve_told {w : World} {n most : Nat} {s : Value} {C : Cls} (hs : RIntss w (Lt w.heap.size) s C) (hm : satMayN n C = 0) (hmost : most ≤ 2000000) (h9 : n ≤ 9 → 10000 ≤ most) :
    Calls Try.prog 17 #[.agg #[.int .i64 (n : Int), s], .int .i64 (most : Int)] w fun e w' => ∃ (ev kv : Int) (A1 A2 : Option Addr) (n1 c1 n2 c2 : Nat), e = .returned (.tuple #[.agg #[.int .i64 ev, .slice A1 n1 c1, .slice A2 n2 c2, .int .i64 kv], .int .i64 0]) ∧ Told C n w' ev (.slice A1 n1 c1) (.slice A2 n2 c2) n1 n2 ∧ Below w.heap.size w w' := by
  obtain ⟨h0, h1, h2, h3⟩ := satMay_ok hm
  rw [Int.toNat_natCast] at h3
  refine (TSolve_any hs hm hmost).mono ?_
  rintro e w' ⟨t, a, v, hrun, hok, hpb, hsr, rfl, hv, hb⟩
  obtain ⟨hg, hk⟩ := run_grows h3 hrun
  have hE := ended (by omega) h2 h3 hrun
  have hcs : ∀ c ∈ t.C, ∀ m ∈ c, m ≠ 0 ∧ m.natAbs ≤ n := fun c hc m hm => by
    have := (hg.ok c hc).2 m hm
    unfold litOk at this
    omega
  have hlit : ∀ f ∈ t.F, f ≠ 0 ∧ f.natAbs ≤ n := fun f hf => by
    have := hg.lits f hf
    unfold litOk at this
    omega
  have hopn : n ≤ 9 → ∀ u, a ≠ .opn u := fun h => S15.SolveR.not_opn hcs (by omega) (by have := hE.less; omega) (h9 h) hsr
  cases a with
  | opn k =>
    have hv' : v = .agg #[.int .i64 3, .slice none 0 0, .slice none 0 0, .int .i64 (k : Int)] := hv
    subst hv'
    refine ⟨3, k, none, none, 0, 0, 0, 0, rfl, .inr (.inr ⟨rfl, ?_, rfl, rfl⟩), hb⟩
    rcases Nat.lt_or_ge 9 n with h | h
    · exact h
    · exact absurd rfl (hopn h k)
  | sat tr k =>
    obtain ⟨tv, rfl, hr⟩ := hv
    obtain ⟨A1, c1, rfl⟩ := hr.shape
    refine ⟨1, k, A1, none, _, c1, 0, 0, rfl, .inl ⟨rfl, growT_length _ _ _, rfl, _, hr, ?_⟩, hb⟩
    obtain ⟨-, hl, hall⟩ := hok
    exact hold_grow h3 hrun (by omega) (holds_of (fun c hc m hm => (hcs c hc m hm).1) hall)
  | unsat p k =>
    obtain ⟨pv, rfl, hr⟩ := hv
    obtain ⟨A2, c2, rfl⟩ := hr.shape
    refine ⟨2, k, none, A2, 0, 0, _, c2, rfl, .inr (.inl ⟨rfl, rfl, fun h => ?_, _, t.U.map (fun n => [n]) ++ hok.2.choose, hr, ?_, ?_, ?_, ?_⟩), hb⟩
    · rw [← some_eq h3 hrun, ans_some hcs hok hpb (hopn h)]; rfl
    · intro c hc m hm
      rcases List.mem_append.1 hc with h | h
      · obtain ⟨u, hu, rfl⟩ := List.mem_map.1 h
        obtain rfl : m = u := by simpa using hm
        exact hlit _ (hrun.1.unitF (fun u hu => by simp [startS] at hu) _ hu)
      · exact hpb.1 c h m hm
    · have := hpb.2
      have h9 := hrun.1.ok (startOk h3)
      have := h9.2.1
      have := h9.2.2
      rw [List.length_append, List.length_map]; omega
    · exact (hrun.1.left (left_start C)).rupAll hok.2.choose_spec.2.1
    · rw [List.append_assoc, ← hok.2.choose_spec.1]
set_option maxRecDepth 100000 in
set_option maxHeartbeats 2000000 in
theorem solve_below {w : World} {n : Nat} {most : Int} {s : Value} {C : Cls} (hs : RIntss w (Lt w.heap.size) s C) (hm : satMayN n C = 0) (hneg : most < 0) :
    Calls Try.prog 17 #[.agg #[.int .i64 (n : Int), s], .int .i64 most] w fun e w' => e = .returned (.tuple #[.agg #[.int .i64 0, .slice none 0 0, .slice none 0 0, .int .i64 0], .int .i64 1]) ∧ Below w.heap.size w w' := by
  obtain ⟨A, c, rfl, -⟩ := hs.open_
  have Hs := Lib.hid hs
  have Hm := Lib.hid hm
  have HMy := Lib.hid (satMay_any n (.slice A C.length c) C)
  have hd : decide (most < 0) = true := decide_eq_true hneg
  clear hs hm
  go_enter Try.func17, Try.ntmps17
  go_wp2_with (go_at_call 19
               refine (HMy.out _ (RIntss.stable.up Hs.out ((below_alloc _ _).alloc (by simp) _))).mono ?_
               rintro e w1 ⟨rfl, hb1⟩
               rw [Hm.out]
               obtain ⟨hc, hf⟩ := bcell hb1
               have hz1 : w.heap.size + 1 < w1.heap.size := (by have := hb1.size; simp at this; omega)
               have Hb1 := Lib.hid (((below_alloc w _).alloc (by simp) _).trans (hb1.mono (by simp; omega)))
               have Hr := Lib.hid (show w1.heap[w.heap.size + 1]? = some (.cells #[.int .i64 0, .slice none 0 0, .slice none 0 0, .int .i64 0] 47 (0, 0)) from (hb1.block _ (by simp)).trans (by have := heap_alloc_new (w.alloc (.cells #[.int .i64 (n : Int), .slice A C.length c] 24)) (.cells #[.int .i64 0, .slice none 0 0, .slice none 0 0, .int .i64 0] 47); rwa [World.size_alloc] at this))
               clear hb1)
  refine bodyPost_ret (results_row2S rfl _ _ (w.heap.size + 1) _ _ (0, 0) _ rfl (set4R Hr.out _ _ _ _) Try.underlying47 rfl (by kernel_rfl)) rfl ?_
  exact ⟨rfl, S15.below4R Hb1.out (by omega) _ _ _ _⟩
set_option maxRecDepth 100000 in
set_option maxHeartbeats 4000000 in
theorem walk_TrimSolves (W : World) (v0 v1 : Value) (a0 : Arg Try.prog W 24 v0) (a1 : Arg Try.prog W 3 v1) :
    Calls Try.prog 7 #[v0, v1] W fun e W' => e = .returned (.bool true) ∧ Below W.heap.size W W' := by
  obtain ⟨v, s, C, rfl, h0, hv1, hv2⟩ := arg_question a0
  obtain ⟨m, rfl, hm1, hm2⟩ := arg_int a1
  obtain ⟨A, c, rfl⟩ := h0.shape
  have H0 := Lib.hid h0
  have hbx := below_alloc W (.cells #[.int .i64 v, .slice A C.length c] 24)
  have Hb0 := Lib.hid hbx
  have hx0 : (W.alloc (.cells #[.int .i64 v, .slice A C.length c] 24)).cell? ⟨W.heap.size, 0, none⟩ = some (.int .i64 v) := by simp [go_sem]
  have hx1 : (W.alloc (.cells #[.int .i64 v, .slice A C.length c] 24)).cell? ⟨W.heap.size, 1, none⟩ = some (.slice A C.length c) := by simp [go_sem]
  have Hx0 := Lib.hid hx0; have Hx1 := Lib.hid hx1
  have hz0 : W.heap.size < (W.alloc (.cells #[.int .i64 v, .slice A C.length c] 24)).heap.size := by simp
  clear hbx hx0 hx1 h0 a0 a1
  by_cases hcond : lightQ v C = true
  case neg =>
    have Hl := Lib.hid (show lightQ v C = false by simpa using hcond)
    clear hcond
    go_enter Try.func7, Try.ntmps7
    go_wp2_with (first
      | (go_at_call 8; refine (light_any _ _ C _ (RIntss.stable.up H0.out Hb0.out)).mono ?_; rintro e w1 ⟨rfl, hb⟩; rw [Hl.out])
      | (go_at_call 9; refine (lives_any _).mono ?_; rintro e w2 ⟨rfl, hb2⟩))
    go_ret
    exact ⟨rfl, Hb0.out.trans ((hb.mono (by simp)).trans (hb2.mono (by have := hb.size; simp at this; omega)))⟩
  have Hl := Lib.hid hcond
  have hCl : C.length ≤ 60 := by simp [lightQ] at hcond; omega
  clear hcond
  by_cases hm : satMayN v C = 0
  case neg =>
    have Hm := Lib.hid hm
    have hne : (((satMayN v C : Nat) : Int) != 0) = decide (satMayN v C ≠ 0) := by rw [Bool.eq_iff_iff]; simp
    simp only [hm, ne_eq, not_false_eq_true, decide_true] at hne
    clear hm
    go_enter Try.func7, Try.ntmps7
    go_wp2_with (first
      | (go_at_call 8
         refine (light_any _ _ C _ (RIntss.stable.up H0.out Hb0.out)).mono ?_
         rintro e w1 ⟨rfl, hb⟩
         rw [Hl.out]
         have hy0 := (hb.cell (p := ⟨W.heap.size, 0, none⟩) hz0).trans Hx0.out
         have hy1 := (hb.cell (p := ⟨W.heap.size, 1, none⟩) hz0).trans Hx1.out
         have Hb1 := Lib.hid (Hb0.out.trans (hb.mono (Nat.le_of_lt hz0)))
         clear hb)
      | (go_at_call 11; refine (refSatMay_any _ _ C _ (RIntss.stable.up H0.out Hb1.out)).mono ?_; rintro e w2 ⟨rfl, hb2⟩; have Hb2 := Lib.hid (Hb1.out.trans (hb2.mono Hb1.out.size)); clear hb2)
      | (go_at_call 9; refine (lives_any _).mono ?_; rintro e w3 ⟨rfl, hb3⟩))
    go_ret
    exact ⟨rfl, Hb2.out.trans (hb3.mono Hb2.out.size)⟩
  obtain ⟨f1, f2, f3, f4⟩ := satMay_ok hm
  obtain ⟨n, rfl⟩ := Int.eq_ofNat_of_zero_le f1
  have Hm := Lib.hid hm
  have Hm0 := Lib.hid (show ((satMayN (n : Int) C : Nat) : Int) = 0 by rw [hm]; rfl)
  have Hok := Lib.hid f4
  have hn : n ≤ 1024 := by omega
  clear hm f1 f2 f3 f4
  go_enter Try.func7, Try.ntmps7
  go_upto_if 20 with (first
      | (go_at_call 8
         refine (light_any _ _ C _ (RIntss.stable.up H0.out Hb0.out)).mono ?_
         rintro e w1 ⟨rfl, hb⟩
         rw [Hl.out]
         have hy0 := (hb.cell (p := ⟨W.heap.size, 0, none⟩) hz0).trans Hx0.out
         have hy1 := (hb.cell (p := ⟨W.heap.size, 1, none⟩) hz0).trans Hx1.out
         have hz1 : W.heap.size < w1.heap.size := Nat.lt_of_lt_of_le hz0 hb.size
         have Hb1 := Lib.hid (Hb0.out.trans (hb.mono (Nat.le_of_lt hz0)))
         clear hb)
      | (go_at_call 11
         refine (refSatMay_any _ _ C _ (RIntss.stable.up H0.out Hb1.out)).mono ?_
         rintro e w2 ⟨rfl, hb2⟩
         rw [Hm0.out]
         have hu0 := (hb2.cell (p := ⟨W.heap.size, 0, none⟩) hz1).trans hy0
         have hu1 := (hb2.cell (p := ⟨W.heap.size, 1, none⟩) hz1).trans hy1
         have hz2 : W.heap.size < w2.heap.size := Nat.lt_of_lt_of_le hz1 hb2.size
         have Hb2 := Lib.hid (Hb1.out.trans (hb2.mono Hb1.out.size))
         clear hb2 hy0 hy1))
  -- THE WAYS
  by_cases hc9 : n ≤ 9
  · have HS := Lib.hid (solve_told (w := w2) (n := n) (most := 100000) (s := .slice A C.length c) (C := C) (RIntss.stable.up H0.out Hb2.out) Hm.out (by omega) (fun _ => by omega))
    go_wp2_with fail
    refine HS.out.mono ?_
    rintro e w3 ⟨ev, kv, A1, A2, n1, c1, n2, c2, rfl, ht, b3⟩
    have hq0 := (b3.cell (p := ⟨W.heap.size, 0, none⟩) hz2).trans hu0
    have hq1 := (b3.cell (p := ⟨W.heap.size, 1, none⟩) hz2).trans hu1
    have hz3 : W.heap.size < w3.heap.size := Nat.lt_of_lt_of_le hz2 b3.size
    have Hb3 := Lib.hid (Hb2.out.trans (b3.mono Hb2.out.size))
    have Hb4 := Lib.hid (fun o => (show RowKit.Below W.heap.size W (w3.alloc o) from Hb3.out.alloc Hb3.out.size o))
    have Hba := Lib.hid (fun o => below_alloc w3 o)
    clear b3 hu0 hu1 hz2 HS
    rcases ht with ⟨rfl, rfl, rfl, g, hrg, hg⟩ | ⟨rfl, rfl, hsm, p, p', hrp, hpb, hpl, hpr, hpe⟩ | ⟨rfl, hn9, rfl, rfl⟩
    · have Hg := Lib.hid hg
      have Hrg := Lib.hid hrg
      clear hg hrg
      go_wp2_with (first
        | (go_at_call 16; with_reducible refine (Holds_any _ _ C g _ (RIntss.stable.up H0.out (Hb4.out _)) (RBools.stable.up Hrg.out (Hba.out _))).mono ?_; rintro e w5 ⟨rfl, rfl⟩; rw [Hg.out])
        | (go_at_call 9; with_reducible refine (lives_any _).mono ?_; rintro e w6 ⟨rfl, hb6⟩; go_loud (have Hb6 := Lib.hid ((Hb4.out _).trans (hb6.mono (Hb4.out _).size)); clear hb6)))
      go_ret
      exact ⟨rfl, Hb6.out⟩
    · have Hrp := Lib.hid hrp
      have HC := Lib.hid (fun o => Check_any (w := w3.alloc o) (M := n) (RIntss.stable.up H0.out (Hb4.out o)) (RIntss.stable.up Hrp.out (Hba.out o)) (by omega) (lit_abs Hok.out) hpb (by omega) hpl hpr hpe)
      have Hsm := Lib.hid hsm
      clear hrp hpb hpl hpr hpe hsm
      go_wp2_with (first
        | (go_at_call 18; with_reducible refine (HC.out _).mono ?_; rintro e w5 ⟨rfl, hb5⟩; go_loud (have hb35 := ((Hba.out _).trans (hb5.mono (Hba.out _).size)); have hr0 := (hb35.cell (p := ⟨W.heap.size, 0, none⟩) hz3).trans hq0; have hr1 := (hb35.cell (p := ⟨W.heap.size, 1, none⟩) hz3).trans hq1; have Hb5 := Lib.hid (Hb3.out.trans (hb35.mono Hb3.out.size)); clear hb5 hb35))
        | (go_at_call 15; with_reducible refine (Some_any (.slice A C.length c) C n (by omega) _ (RIntss.stable.up H0.out Hb5.out)).mono ?_; rintro e w7 ⟨rfl, hb7⟩; go_loud (rw [Hsm.out hc9]; have HbL := Lib.hid (Hb5.out.trans (hb7.mono Hb5.out.size)); clear hb7))
        | (go_at_call 9; with_reducible refine (lives_any _).mono ?_; rintro e w6 ⟨rfl, hb6⟩; go_loud (have Hb6 := Lib.hid ((HbL.out).trans (hb6.mono (HbL.out).size)); clear hb6)))
      go_ret
      exact ⟨rfl, Hb6.out⟩
    · exact absurd hn9 (by omega)
  · rcases Int.lt_or_le m 0 with hneg | hpos
    · have HN := Lib.hid (solve_below (w := w2) (n := n) (most := m) (s := .slice A C.length c) (C := C) (RIntss.stable.up H0.out Hb2.out) Hm.out hneg)
      go_wp2_with (first
        | (go_at_call 17; with_reducible refine HN.out.mono ?_; rintro e w3 ⟨rfl, b3⟩; go_loud (have Hb3 := Lib.hid (Hb2.out.trans (b3.mono Hb2.out.size)); have Hb4 := Lib.hid (fun o => (show RowKit.Below W.heap.size W (w3.alloc o) from Hb3.out.alloc Hb3.out.size o)); clear b3))
        | (go_at_call 9; with_reducible refine (lives_any _).mono ?_; rintro e w6 ⟨rfl, hb6⟩; go_loud (have Hb6 := Lib.hid ((Hb4.out _).trans (hb6.mono (Hb4.out _).size)); clear hb6)))
      go_ret
      exact ⟨rfl, Hb6.out⟩
    · obtain ⟨m0, rfl⟩ := Int.eq_ofNat_of_zero_le hpos
      obtain ⟨mn, hmn⟩ : ∃ mn : Nat, mn = min m0 40 := ⟨_, rfl⟩
      have hmn2 : mn ≤ 40 := by omega
      have Hmn := Lib.hid hmn
      clear hmn
      go_upto_region 10 with fail
      rw [show (if (40 : Int) < (m0 : Int) then (40 : Int) else (m0 : Int)) = (mn : Int) by have := Hmn.out; split <;> omega]
      have HS := Lib.hid (solve_told (w := w2) (n := n) (most := mn) (s := .slice A C.length c) (C := C) (RIntss.stable.up H0.out Hb2.out) Hm.out (by omega) (fun h => absurd h hc9))
      go_wp2_with fail
      refine HS.out.mono ?_
      rintro e w3 ⟨ev, kv, A1, A2, n1, c1, n2, c2, rfl, ht, b3⟩
      have hq0 := (b3.cell (p := ⟨W.heap.size, 0, none⟩) hz2).trans hu0
      have hq1 := (b3.cell (p := ⟨W.heap.size, 1, none⟩) hz2).trans hu1
      have hz3 : W.heap.size < w3.heap.size := Nat.lt_of_lt_of_le hz2 b3.size
      have Hb3 := Lib.hid (Hb2.out.trans (b3.mono Hb2.out.size))
      have Hb4 := Lib.hid (fun o => (show RowKit.Below W.heap.size W (w3.alloc o) from Hb3.out.alloc Hb3.out.size o))
      have Hba := Lib.hid (fun o => below_alloc w3 o)
      clear b3 hu0 hu1 hz2 HS
      rcases ht with ⟨rfl, rfl, rfl, g, hrg, hg⟩ | ⟨rfl, rfl, hsm, p, p', hrp, hpb, hpl, hpr, hpe⟩ | ⟨rfl, hn9, rfl, rfl⟩
      · have Hg := Lib.hid hg
        have Hrg := Lib.hid hrg
        clear hg hrg
        go_wp2_with (first
          | (go_at_call 16; with_reducible refine (Holds_any _ _ C g _ (RIntss.stable.up H0.out (Hb4.out _)) (RBools.stable.up Hrg.out (Hba.out _))).mono ?_; rintro e w5 ⟨rfl, rfl⟩; rw [Hg.out])
          | (go_at_call 9; with_reducible refine (lives_any _).mono ?_; rintro e w6 ⟨rfl, hb6⟩; go_loud (have Hb6 := Lib.hid ((Hb4.out _).trans (hb6.mono (Hb4.out _).size)); clear hb6)))
        go_ret
        exact ⟨rfl, Hb6.out⟩
      · have Hrp := Lib.hid hrp
        have HC := Lib.hid (fun o => Check_any (w := w3.alloc o) (M := n) (RIntss.stable.up H0.out (Hb4.out o)) (RIntss.stable.up Hrp.out (Hba.out o)) (by omega) (lit_abs Hok.out) hpb (by omega) hpl hpr hpe)
        have Hsm := Lib.hid hsm
        clear hrp hpb hpl hpr hpe hsm
        go_wp2_with (first
          | (go_at_call 18; with_reducible refine (HC.out _).mono ?_; rintro e w5 ⟨rfl, hb5⟩; go_loud (have hb35 := ((Hba.out _).trans (hb5.mono (Hba.out _).size)); have hr0 := (hb35.cell (p := ⟨W.heap.size, 0, none⟩) hz3).trans hq0; have hr1 := (hb35.cell (p := ⟨W.heap.size, 1, none⟩) hz3).trans hq1; have Hb5 := Lib.hid (Hb3.out.trans (hb35.mono Hb3.out.size)); clear hb5 hb35))
          | (go_at_call 9; with_reducible refine (lives_any _).mono ?_; rintro e w6 ⟨rfl, hb6⟩; go_loud (have Hb6 := Lib.hid ((Hb5.out).trans (hb6.mono (Hb5.out).size)); clear hb6)))
        go_ret
        exact ⟨rfl, Hb6.out⟩
      · go_wp2_with (go_at_call 9; with_reducible refine (lives_any _).mono ?_; rintro e w6 ⟨rfl, hb6⟩; go_loud (have Hb6 := Lib.hid ((Hb4.out _).trans (hb6.mono (Hb4.out _).size)); clear hb6))
        go_ret
        exact ⟨rfl, Hb6.out⟩
end Go.Proofs.Ytdofiipckcfopaa
