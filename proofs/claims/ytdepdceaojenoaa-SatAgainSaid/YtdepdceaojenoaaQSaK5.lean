/- The law SatAgain, walked. -/
import Derived.Test.YtdepdceaojenoaaQFnSameS
import Derived.Test.YtdepdceaojenoaaQSaK4
namespace Go.Proofs.Ytdepdceaojenoaa
open Go.RowKit

/-- the rows that were copied -/
def Cpd (w : World) (B : Nat) (v : Value) (xs : List Value) (C : List (List Int)) (i : Nat) : Prop :=
  OwnG w B 26 v xs ∧ xs.length = i ∧ ∀ j u, xs[j]? = some u → OwnG w B 3 u (zV (C.getD j []))
theorem Cpd.push {w w5 : World} {B i : Nat} {v v' u : Value} {xs : List Value} {C : List (List Int)} {o : Obj} (h : Cpd w B v xs C i) (hu : OwnG w B 3 u (zV (C.getD i []))) (hown : OwnG w5 B 26 v' (xs ++ [u])) (hg : (w.alloc o).grownBy w5 v.ownBlock) : Cpd w5 B v' (xs ++ [u]) C (i + 1) := by
  obtain ⟨h1, h2, h3⟩ := h
  have key : ∀ z l, OwnG w B 3 z l → OwnG w5 B 3 z l := fun z l hz => hz.kp fun g hgz ob hob => by
    have hne : some g ≠ v.ownBlock := fun e => by
      obtain ⟨c1, e1⟩ := hz.obj hgz
      obtain ⟨c2, e2⟩ := h1.obj e.symm
      rw [e1] at e2
      simp at e2
    have h5 : (w.alloc o).heap[g]? = some ob := heap_at_alloc hob
    rw [(ag_of_grown hg) g ⟨heap_lt h5, hne⟩]
    exact h5
  refine ⟨hown, by rw [List.length_append, h2]; rfl, fun j z hz => ?_⟩
  rcases Nat.lt_or_ge j xs.length with k | k
  · rw [List.getElem?_append_left k] at hz
    exact key _ _ (h3 j z hz)
  · have hj : j = i := by have := (List.getElem?_eq_some_iff.1 hz).1; simp at this; omega
    subst hj
    rw [List.getElem?_append_right (by omega), h2, Nat.sub_self] at hz
    simp at hz
    subst hz
    exact key _ _ hu
theorem Cpd.keep {w w' : World} {B i : Nat} {v : Value} {xs : List Value} {C : List (List Int)} (h : Cpd w B v xs C i) (hb : Below w.heap.size w w') : Cpd w' B v xs C i :=
  ⟨h.1.kp fun g _ => kp_new hb g, h.2.1, fun j u hu => (h.2.2 j u hu).kp fun g _ => kp_new hb g⟩
theorem Cpd.reads {w : World} {B : Nat} {v : Value} {xs : List Value} {C : List (List Int)} (h : Cpd w B v xs C C.length) : RIntss w (Lt w.heap.size) v C :=
  reads_own h.1 h.2.1.symm (fun g hg => (h.1.lt g hg).2) fun k hk u hu => by
    have := h.2.2 k u hu
    rw [List.getD_eq_getElem?_getD, List.getElem?_eq_getElem hk] at this
    exact ints_own this fun g hg => (this.lt g hg).2
theorem SameS_refl (s1 s2 : Value) (A : List (List Int)) (w : World) {S1 S2 : Nat → Prop} (h1 : RIntss w S1 s1 A) (h2 : RIntss w S2 s2 A) : Calls Try.prog 17 #[s1, s2] w fun e w' => e = .returned (.bool true) ∧ ∃ n, w' = w.drewN n :=
  (SameS_any s1 s2 A A w h1 h2).mono fun e w' ⟨h, k⟩ => ⟨by rw [h]; simp, k⟩
theorem new_nil (w : World) : OwnG (w.alloc (.cells #[] 3)) w.heap.size 3 (.slice (some ⟨w.heap.size, 0, none⟩) 0 0) [] := OwnG.of_own (World.ownsRow_lit (base := w.heap.size) (e := 3) (size := 1) w #[] 0 (Nat.le_refl _) (by unfold maxLen; omega) rfl)
theorem AnsAll.two {cs : List (List Int)} {n most : Nat} {w w2 : World} {T T2 : Nat → Prop} {ev kv ev2 kv2 : Int} {A1 A2 A3 A4 : Option Addr} {n1 c1 n2 c2 n3 c3 n4 c4 : Nat} {a : SAns} (h : AnsAll cs n most w T (.agg #[.int .i64 ev, .slice A1 n1 c1, .slice A2 n2 c2, .int .i64 kv]) a)
    (h2 : AnsAll cs n most w2 T2 (.agg #[.int .i64 ev2, .slice A3 n3 c3, .slice A4 n4 c4, .int .i64 kv2]) a) : ev = ev2 ∧ kv = kv2 ∧ n1 = n3 ∧ ∃ P t, RIntss w T (.slice A2 n2 c2) P ∧ RIntss w2 T2 (.slice A4 n4 c4) P ∧ RBools w T (.slice A1 n1 c1) t ∧ RBools w2 T2 (.slice A3 n3 c3) t := by
  have k1 := h.rd
  have k2 := h2.rd
  cases a with
  | opn k =>
    injection k1 with e
    simp only [Array.mk.injEq, List.cons.injEq, Value.int.injEq, Value.slice.injEq, true_and, and_true] at e
    injection k2 with e2
    simp only [Array.mk.injEq, List.cons.injEq, Value.int.injEq, Value.slice.injEq, true_and, and_true] at e2
    obtain ⟨rfl, ⟨rfl, rfl, rfl⟩, ⟨rfl, rfl, rfl⟩, rfl⟩ := e
    obtain ⟨rfl, ⟨rfl, rfl, rfl⟩, ⟨rfl, rfl, rfl⟩, rfl⟩ := e2
    exact ⟨rfl, rfl, rfl, [], [], RSl.nil_ _ _ _, RSl.nil_ _ _ _, RSl.nil_ _ _ _, RSl.nil_ _ _ _⟩
  | unsat p k =>
    obtain ⟨pv, e, r1⟩ := k1
    obtain ⟨pv2, e2, r2⟩ := k2
    injection e with e
    simp only [Array.mk.injEq, List.cons.injEq, Value.int.injEq, Value.slice.injEq, true_and, and_true] at e
    injection e2 with e2
    simp only [Array.mk.injEq, List.cons.injEq, Value.int.injEq, Value.slice.injEq, true_and, and_true] at e2
    obtain ⟨rfl, ⟨rfl, rfl, rfl⟩, rfl, rfl⟩ := e
    obtain ⟨rfl, ⟨rfl, rfl, rfl⟩, rfl, rfl⟩ := e2
    exact ⟨rfl, rfl, rfl, p, [], r1, r2, RSl.nil_ _ _ _, RSl.nil_ _ _ _⟩
  | sat t k =>
    obtain ⟨pv, e, r1⟩ := k1
    obtain ⟨pv2, e2, r2⟩ := k2
    injection e with e
    simp only [Array.mk.injEq, List.cons.injEq, Value.int.injEq, Value.slice.injEq, true_and, and_true] at e
    injection e2 with e2
    simp only [Array.mk.injEq, List.cons.injEq, Value.int.injEq, Value.slice.injEq, true_and, and_true] at e2
    obtain ⟨rfl, rfl, ⟨rfl, rfl, rfl⟩, rfl⟩ := e
    obtain ⟨rfl, rfl, ⟨rfl, rfl, rfl⟩, rfl⟩ := e2
    have l1 := r1.open_
    have l2 := r2.open_
    obtain ⟨_, _, q1, -⟩ := l1
    obtain ⟨_, _, q2, -⟩ := l2
    injection q1 with _ q1 _
    injection q2 with _ q2 _
    exact ⟨rfl, rfl, by rw [q1, q2], [], t, RSl.nil_ _ _ _, RSl.nil_ _ _ _, r1, r2⟩
set_option maxRecDepth 100000 in
set_option maxHeartbeats 8000000 in
theorem walk_SatAgain (W : World) (v0 v1 : Value) (a0 : Arg Try.prog W 24 v0) (a1 : Arg Try.prog W 3 v1) :
    Calls Try.prog 7 #[v0, v1] W fun e W' => e = .returned (.bool true) ∧ Below W.heap.size W W' := by
  obtain ⟨v, s, C, rfl, h0, hv1, hv2⟩ := arg_question a0
  obtain ⟨m, rfl, hm1, hm2⟩ := arg_int a1
  obtain ⟨A, c, rfl, hlm, -⟩ := h0.open_
  have H0 := Lib.hid h0
  clear h0 a0 a1
  obtain ⟨N, hN⟩ : ∃ N, N = C.length := ⟨_, rfl⟩
  have HN := Lib.hid hN
  rw [← hN] at hlm ⊢
  clear hN
  obtain ⟨B0, hB0⟩ : ∃ B0, B0 = W.heap.size := ⟨_, rfl⟩
  have HB0 := Lib.hid hB0
  obtain ⟨w1, hw1⟩ : ∃ w1, w1 = W.alloc (.cells #[.int .i64 v, .slice A N c] 24) := ⟨_, rfl⟩
  have Hw1 := Lib.hid hw1
  have HB1 := Lib.hid (show Below B0 W w1 by rw [hw1, hB0]; exact below_alloc _ _)
  have HX1 := Lib.hid (show w1.heap[B0]? = some (.cells #[.int .i64 v, .slice A N c] 24 (0, 0)) by rw [hw1, hB0]; exact heap_alloc_new _ _)
  have hs1 : B0 < w1.heap.size := by rw [hw1, hB0]; simp
  have HS1 := Lib.hid (show RIntss w1 (Lt w1.heap.size) (.slice A N c) C by rw [HN.out]; exact RIntss.stable.up H0.out (hB0 ▸ HB1.out))
  have HKw := Lib.hid (fun (W2 : World) (h : Below w1.heap.size w1 W2) => show (W2.cell? ⟨B0, 0, none⟩ = some (.int .i64 v) ∧ W2.cell? ⟨B0, 1, none⟩ = some (.slice A N c)) ∧ RIntss W2 (Lt W2.heap.size) (.slice A N c) C from
    ⟨⟨cell_of_row _ _ 0 _ _ (0, 0) ((h.block _ hs1).trans HX1.out), cell_of_row _ _ 1 _ _ (0, 0) ((h.block _ hs1).trans HX1.out)⟩, RIntss.stable.up HS1.out h⟩)
  have q0 := cell_of_row _ _ 0 _ _ (0, 0) HX1.out
  have q1 := cell_of_row _ _ 1 _ _ (0, 0) HX1.out
  rw [← hB0]
  clear hw1 hB0
  have HLt := Lib.hid (light_any v (.slice A N c) C w1 HS1.out)
  cases hlq : lightQ v C with
  | false =>
    rw [hlq] at HLt
    clear hlq
    go_enter Try.func7, Try.ntmps7
    go_wp2_with fail
    rw [← HB0.out, ← Hw1.out]
    go_wp2_with (first
      | (go_at_call 13; with_reducible refine HLt.out.mono ?_; rintro e w2 ⟨rfl, b2⟩; go_loud (have HB2 := Lib.hid (HB1.out.trans (b2.mono (Nat.le_of_lt hs1))); clear b2))
      | (go_at_call 9; with_reducible refine (lives_any _).mono ?_; rintro e w5 ⟨rfl, hb5⟩))
    go_ret
    exact ⟨rfl, HB2.out.trans (hb5.mono (by have := HB2.out.size; rw [← HB0.out] at this; exact this))⟩
  | true =>
    rw [hlq] at HLt
    clear hlq
    go_enter Try.func7, Try.ntmps7
    go_wp2_with fail
    rw [← HB0.out, ← Hw1.out]
    by_cases hv40 : 40 < v
    · go_wp2_with (first
        | (go_at_call 13; with_reducible refine HLt.out.mono ?_; rintro e w2 ⟨rfl, b2⟩; go_loud (have HB2 := Lib.hid (HB1.out.trans (b2.mono (Nat.le_of_lt hs1))); obtain ⟨⟨k0, k1⟩, -⟩ := HKw.out w2 b2; clear b2))
        | (go_at_call 9; with_reducible refine (lives_any _).mono ?_; rintro e w5 ⟨rfl, hb5⟩))
      go_ret
      exact ⟨rfl, HB2.out.trans (hb5.mono (by have := HB2.out.size; rw [← HB0.out] at this; exact this))⟩
    obtain ⟨E, hE⟩ : ∃ E, E = satMayN v C := ⟨_, rfl⟩
    have HE := Lib.hid hE
    by_cases hE0 : E = 0
    · have hE1 : satMayN v C = 0 := by rw [← hE]; exact hE0
      have hz : (((E : Nat) : Int) != 0) = false := by rw [hE0]; rfl
      have hvn := may_le hE1
      obtain ⟨n, rfl⟩ : ∃ n : Nat, v = n := ⟨v.toNat, by omega⟩
      obtain ⟨mm, hmm⟩ : ∃ mm : Nat, (mm : Int) = max 0 (min m 60) := ⟨(max 0 (min m 60)).toNat, by omega⟩
      have hmm6 : mm ≤ 60 := by omega
      have HE1 := Lib.hid hE1
      clear hE hE0 hE1
      have hNl : N ≤ 16384 := by rw [HN.out]; exact (may_facts HE1.out).2.1
      have HFl := Lib.hid (fun (D : List Int) (hD : D ∈ C) => (may_facts HE1.out).2.2.1 D hD)
      have Hat := Lib.hid (show RAt RInts W (Lt W.heap.size) A C by
        obtain ⟨A', c', e, h1, h2, h3⟩ := H0.out
        cases e
        exact h3)
      go_upto_region 4 with (first
        | (go_at_call 13; with_reducible refine HLt.out.mono ?_; rintro e w2 ⟨rfl, b2⟩; go_loud (have HBw := Lib.hid b2; obtain ⟨⟨k0, k1⟩, k2⟩ := HKw.out w2 b2; have HM2 := Lib.hid (refSatMay_any (n : Int) (.slice A N c) C w2 k2); rw [← HE.out] at HM2; clear b2 k2))
        | (go_at_call 10; with_reducible refine HM2.out.mono ?_; rintro e w3 ⟨rfl, b3⟩; go_loud (have HB3 := Lib.hid (HBw.out.trans (b3.mono HBw.out.size)); clear k0 k1; obtain ⟨⟨k0, k1⟩, k2⟩ := HKw.out w3 (HBw.out.trans (b3.mono HBw.out.size)); clear b3 k2)))
      rw [show (if 0 < if 60 < m then 60 else m then if 60 < m then 60 else m else 0) = (mm : Int) by split <;> split <;> omega]
      obtain ⟨mn, hmn⟩ : ∃ mn, mn = (if 60 < m then 60 else m) := ⟨_, rfl⟩
      rw [← hmn]
      clear hmm hmn
      go_wp2_with fail
      clear k0 k1
      go_loopw [33, 5] (fun iv wv wr => ∃ (i : Nat) (xs : List Value), i ≤ N ∧ iv = .int .i64 i ∧ Hid (Cpd wr w1.heap.size wv xs C i) ∧ Hid (Below w1.heap.size w1 wr)) (fun iv _ _ => N - (intOf iv).toNat)
      case atStart => exact ⟨0, [], Nat.zero_le _, rfl, Lib.hid ⟨OwnG.nil _ _ _, rfl, fun j u hu => by simp at hu⟩, HB3⟩
      case round =>
        obtain ⟨w4, hw4⟩ : ∃ w4 : World, w4 = wr := ⟨_, rfl⟩
        rw [← hw4] at hrel ⊢
        clear hw4
        obtain ⟨i, xs, hiN, rfl, HC4, HB4⟩ := hrel
        obtain ⟨Ax, cx, hxe⟩ := HC4.out.1.shape
        rw [HC4.out.2.1] at hxe
        subst hxe
        have hs4 := HB4.out.size
        rcases Nat.lt_or_ge i N with hi | hi
        · have hi2 : i < C.length := by rw [← HN.out]; exact hi
          have hbw : Below W.heap.size W w4 := HB0.out ▸ HB1.out.trans (HB4.out.mono (Nat.le_of_lt hs1))
          obtain ⟨b, off, u, rfl, hb, hu, hR⟩ := Hat.out.at_ RInts.stable (ag_of_below hbw) hi2
          obtain ⟨AC, cC, rfl, hcC, hmC, hmC2, hatC⟩ := hR.open2
          have hgd : C.getD i [] = C[i] := by rw [List.getD_eq_getElem?_getD, List.getElem?_eq_getElem hi2]; rfl
          have hLl := HFl.out _ (List.getElem_mem hi2)
          obtain ⟨D, hD⟩ : ∃ D, D = C[i] := ⟨_, rfl⟩
          rw [← hD] at hu hcC hmC hatC hgd hLl
          have HatC := Lib.hid hatC
          have Hgd := Lib.hid hgd
          obtain ⟨L, hL⟩ : ∃ L, L = D.length := ⟨_, rfl⟩
          have HL := Lib.hid hL
          rw [← hL] at hu hcC hmC hLl
          clear hR hatC hD hL hgd hb hi2 hbw
          have hAC : AC = none ∨ ∃ q, AC = some q := by
            cases AC with
            | none => exact .inl rfl
            | some q => exact .inr ⟨q, rfl⟩
          have Hnn := Lib.hid (new_nil w4)
          have Hb5 := Lib.hid (below_alloc w4 (.cells #[] 3))
          have Hnw := Lib.hid (World.ownsRow_lit (base := w4.heap.size) (e := 3) (size := 1) w4 #[] 0 (Nat.le_refl _) (by unfold maxLen; omega) rfl)
          rcases Nat.eq_zero_or_pos L with h0 | h0
          · subst h0
            have Hnil := Lib.hid (show D = [] from List.eq_nil_of_length_eq_zero HL.out.symm)
            rcases hAC with rfl | ⟨q, rfl⟩
            · have HC5 := Lib.hid (HC4.out.keep Hb5.out)
              go_wp2_with (at_builtin; go_loud (refine wpList_pushG rfl _ _ _ rfl eRows (v := .slice Ax i cx) rfl (HC5.out.1.kp fun _ _ => kp_new (below_alloc _ _) _) (w4.heap.size + 1) (.slice (some ⟨w4.heap.size, 0, none⟩) 0 0) rfl (by have h9 := one_new (w4.alloc (.cells #[] 3)) (.slice (some ⟨w4.heap.size, 0, none⟩) 0 0) 26; rwa [World.size_alloc] at h9) rfl (by rw [HC4.out.2.1]; omega) (by simp; omega) ?_; intro v' w6 hown hgr hnn; (have HC6 := Lib.hid (HC5.out.push (show OwnG _ _ _ _ _ by rw [Hgd.out, Hnil.out]; exact own_base Hnn.out hs4) hown hgr); have HB6 := Lib.hid (((HB4.out.trans (Hb5.out.mono hs4)).alloc (by simp; omega) _).grown hgr (by simp; omega) fun k hk => (HC5.out.1.lt k hk).1); clear hown hgr hnn)))
              go_roundw
              case rel => exact ⟨i + 1, _, by omega, by go_num, HC6, HB6⟩
              case measure => simp [intOf]; omega
            · have HC5 := Lib.hid (HC4.out.keep Hb5.out)
              go_wp2_with (at_builtin; go_loud (refine wpList_pushG rfl _ _ _ rfl eRows (v := .slice Ax i cx) rfl (HC5.out.1.kp fun _ _ => kp_new (below_alloc _ _) _) (w4.heap.size + 1) (.slice (some ⟨w4.heap.size, 0, none⟩) 0 0) rfl (by have h9 := one_new (w4.alloc (.cells #[] 3)) (.slice (some ⟨w4.heap.size, 0, none⟩) 0 0) 26; rwa [World.size_alloc] at h9) rfl (by rw [HC4.out.2.1]; omega) (by simp; omega) ?_; intro v' w6 hown hgr hnn; (have HC6 := Lib.hid (HC5.out.push (show OwnG _ _ _ _ _ by rw [Hgd.out, Hnil.out]; exact own_base Hnn.out hs4) hown hgr); have HB6 := Lib.hid (((HB4.out.trans (Hb5.out.mono hs4)).alloc (by simp; omega) _).grown hgr (by simp; omega) fun k hk => (HC5.out.1.lt k hk).1); clear hown hgr hnn)))
              go_roundw
              case rel => exact ⟨i + 1, _, by omega, by go_num, HC6, HB6⟩
              case measure => simp [intOf]; omega
          · obtain ⟨bC, oC_, ys, rfl, hbC, hyl, hyc, hyr⟩ := HatC.out.vals (by rw [← HL.out]; exact h0)
            have Hyl := Lib.hid hyl
            have Hyc := Lib.hid hyc
            have Hye := Lib.hid (show ys = zV D by
              apply List.ext_getElem
              · simp [hyl]
              · intro j h1 h2
                have := hyr j (by simpa using h2) ys[j] (List.getElem?_eq_getElem h1)
                rw [this]; simp)
            have Hy1 := Lib.hid (show ∀ u ∈ ys, u.oneCell' = true by
              rw [Hye.out]
              intro u hu
              obtain ⟨x, -, rfl⟩ := List.mem_map.1 hu
              rfl)
            clear hyl hyc hyr hbC
            go_wp2_with (first
              | (at_builtin; go_loud (refine wpList_appendL rfl _ _ _ rfl eInt (v := .slice (some ⟨w4.heap.size, 0, none⟩) 0 0) rfl Hnw.out ⟨bC, oC_, none⟩ L cC ys rfl (by rw [Hyl.out, HL.out]) (fun j u hu => ?hcell) Hy1.out (by omega) (by simp) ?_); rotate_left 1; intro v5 w5 hown5 hg5 hat5; go_loud (obtain ⟨A5, c5, hv5⟩ := (OwnG.of_own hown5).shape; rw [List.nil_append, Hyl.out, ← HL.out] at hv5; subst hv5; have HO5 := Lib.hid (show OwnG w5 w4.heap.size 3 (.slice A5 L c5) ys from (by have := OwnG.of_own hown5; rwa [List.nil_append] at this)); have Hb6 := Lib.hid (Hb5.out.grown hg5 (by simp) fun k hk => (by simp [Value.ownBlock] at hk; omega)); have HC5 := Lib.hid (HC4.out.keep (Hb5.out.grown hg5 (by simp) fun k hk => (by simp [Value.ownBlock] at hk; omega))); clear hown5 hg5 hat5))
              | (at_builtin; go_loud (refine wpList_pushG rfl _ _ _ rfl eRows (v := .slice Ax i cx) rfl (HC5.out.1.kp fun _ _ => kp_new (below_alloc _ _) _) w5.heap.size (.slice A5 L c5) rfl (one_new _ _ _) rfl (by rw [HC4.out.2.1]; omega) (by have := Hb6.out.size; simp; omega) ?_; intro v' w6 hown hgr hnn; (have HC6 := Lib.hid (HC5.out.push (show OwnG _ _ _ _ _ by rw [Hgd.out, ← Hye.out]; exact own_base HO5.out hs4) hown hgr); have HB6 := Lib.hid (((HB4.out.trans (Hb6.out.mono hs4)).alloc (by have := Hb6.out.size; omega) _).grown hgr (by have := Hb6.out.size; simp; omega) fun k hk => (HC5.out.1.lt k hk).1); clear hown hgr hnn))))
            case hcell =>
              have := Hyc.out j u hu
              have hb := World.block_lt_of_cell? w4 _ this
              rw [World.cell?_alloc_lt _ _ _ hb]
              exact this
            go_roundw
            case rel => exact ⟨i + 1, _, by omega, by go_num, HC6, HB6⟩
            case measure => simp [intOf]; omega
        · obtain rfl : i = N := by omega
          have HWas := Lib.hid (show Cpd w4 w1.heap.size (.slice Ax i cx) xs C C.length by rw [← HN.out]; exact HC4.out)
          obtain ⟨⟨k0, k1⟩, k2⟩ := HKw.out w4 HB4.out
          have HS4 := Lib.hid (solve_law k2 HE1.out (most := mm) (by omega) (forget_200 (by omega)))
          clear k2 Hat HC4
          go_upto_region 11 with (go_at_call 12; with_reducible refine HS4.out.mono ?_; rintro e w5 ⟨a, ev, kv, A1, A2, n1, c1, n2, c2, rfl, ha, b5⟩; go_loud (have HA5 := Lib.hid ha; have Hb5 := Lib.hid b5; clear b5 ha))
          obtain ⟨X5, hX5⟩ : ∃ X, X = Obj.cells #[.int .i64 ev, .slice A1 n1 c1, .slice A2 n2 c2, .int .i64 kv] 33 := ⟨_, rfl⟩
          obtain ⟨w6, hw6⟩ : ∃ w6, w6 = w5.alloc X5 := ⟨_, rfl⟩
          have Hb6 := Lib.hid (show Below w5.heap.size w5 w6 by rw [hw6]; exact below_alloc _ _)
          have HX6 := Lib.hid (show w6.heap[w5.heap.size]? = some (.cells #[.int .i64 ev, .slice A1 n1 c1, .slice A2 n2 c2, .int .i64 kv] 33 (0, 0)) by rw [hw6, hX5]; exact heap_alloc_new _ _)
          have hs6 : w6.heap.size = w5.heap.size + 1 := by rw [hw6]; simp
          rw [← hX5, ← hw6]
          clear hw6 hX5 HS4 k0 k1
          have HB6 := Lib.hid (HB4.out.trans ((Hb5.out.trans (Hb6.out.mono Hb5.out.size)).mono hs4))
          obtain ⟨⟨k0, k1⟩, k2⟩ := HKw.out w6 HB6.out
          have HS6 := Lib.hid (solve_law k2 HE1.out (most := mm) (by omega) (forget_200 (by omega)))
          clear k2
          go_upto_region 12 with (go_at_call 12; with_reducible refine HS6.out.mono ?_; rintro e w7 ⟨a2, ev2, kv2, A3, A4, n3, c3, n4, c4, rfl, ha, b7⟩; go_loud (have HA7 := Lib.hid ha; have Hb7 := Lib.hid b7; clear b7 ha))
          obtain ⟨X7, hX7⟩ : ∃ X, X = Obj.cells #[.int .i64 ev2, .slice A3 n3 c3, .slice A4 n4 c4, .int .i64 kv2] 33 := ⟨_, rfl⟩
          obtain ⟨w8, hw8⟩ : ∃ w8, w8 = w7.alloc X7 := ⟨_, rfl⟩
          have Hb8 := Lib.hid (show Below w7.heap.size w7 w8 by rw [hw8]; exact below_alloc _ _)
          have HX8 := Lib.hid (show w8.heap[w7.heap.size]? = some (.cells #[.int .i64 ev2, .slice A3 n3 c3, .slice A4 n4 c4, .int .i64 kv2] 33 (0, 0)) by rw [hw8, hX7]; exact heap_alloc_new _ _)
          have hs8 : w8.heap.size = w7.heap.size + 1 := by rw [hw8]; simp
          rw [← hX7, ← hw8]
          clear hw8 hX7 HS6 k0 k1
          have mf := may_facts HE1.out
          obtain rfl : a2 = a := HA7.out.sr.unique mf.2.2.2 (by omega) mf.2.1 (by omega) HA5.out.sr
          obtain ⟨rfl, rfl, rfl, P, t, r1, r2, r3, r4⟩ := HA5.out.two HA7.out
          clear mf HA5 HA7
          have h68 : Below w6.heap.size w6 w8 := Hb7.out.trans (Hb8.out.mono Hb7.out.size)
          have h58 : Below w5.heap.size w5 w8 := Hb6.out.trans (h68.mono Hb6.out.size)
          have h48 : Below w4.heap.size w4 w8 := Hb5.out.trans (h58.mono Hb5.out.size)
          have h18 : Below w1.heap.size w1 w8 := HB4.out.trans (h48.mono hs4)
          have s1 : RIntss w8 (fun _ => True) (.slice A2 n2 c2) P := RIntss.stable _ _ _ _ _ _ r1 ((ag_of_below h58).sub fun b hb => hb.2) fun _ _ => trivial
          have s2 : RIntss w8 (fun _ => True) (.slice A4 n4 c4) P := RIntss.stable _ _ _ _ _ _ r2 ((ag_of_below Hb8.out).sub fun b hb => hb.2) fun _ _ => trivial
          have s3 : RBools w8 (fun _ => True) (.slice A1 n1 c1) t := RBools.stable _ _ _ _ _ _ r3 ((ag_of_below h58).sub fun b hb => hb.2) fun _ _ => trivial
          have s4 : RBools w8 (fun _ => True) (.slice A3 n1 c3) t := RBools.stable _ _ _ _ _ _ r4 ((ag_of_below Hb8.out).sub fun b hb => hb.2) fun _ _ => trivial
          obtain ⟨⟨k0, k1⟩, k2⟩ := HKw.out w8 h18
          have hwas := (HWas.out.keep h48).reads
          have HM1 := Lib.hid (SameS_refl (.slice A2 n2 c2) (.slice A4 n4 c4) P w8 s1 s2)
          have HM2 := Lib.hid (fun j => SameS_refl (.slice A i c) (.slice Ax i cx) C (w8.drewN j) (RIntss.stable.agree k2 fun _ _ => rfl) (RIntss.stable.agree hwas fun _ _ => rfl))
          have S3 := Lib.hid s3
          have S4 := Lib.hid s4
          obtain ⟨d5, hd5⟩ : ∃ d, d = w5.heap.size := ⟨_, rfl⟩
          obtain ⟨d7, hd7⟩ : ∃ d, d = w7.heap.size := ⟨_, rfl⟩
          have y5 := (h68.block w5.heap.size (by omega)).trans HX6.out
          have y8 := HX8.out
          rw [← hd5] at y5 ⊢
          rw [← hd7] at y8 ⊢
          have HY5 := Lib.hid y5
          have HY8 := Lib.hid y8
          have x50 := cell_of_row _ _ 0 _ _ (0, 0) y5
          have x51 := cell_of_row _ _ 1 _ _ (0, 0) y5
          have x52 := cell_of_row _ _ 2 _ _ (0, 0) y5
          have x53 := cell_of_row _ _ 3 _ _ (0, 0) y5
          have x80 := cell_of_row _ _ 0 _ _ (0, 0) y8
          have x81 := cell_of_row _ _ 1 _ _ (0, 0) y8
          have x82 := cell_of_row _ _ 2 _ _ (0, 0) y8
          have x83 := cell_of_row _ _ 3 _ _ (0, 0) y8
          have H18 := Lib.hid h18
          have z1 : (ev != ev) = false := by simp
          have z2 : (kv != kv) = false := by simp
          clear r1 r2 r3 r4 s1 s2 s3 s4 h68 h58 h48 h18 hwas k2 hd5 hd7 y5 y8 HX6 HX8 HWas Hb5 Hb6 Hb7 Hb8 hs6 hs8
          go_wp2_with (first
            | (go_at_call 17; with_reducible refine HM1.out.mono ?_; rintro e w9 ⟨rfl, j1, rfl⟩)
            | (go_at_call 17; with_reducible refine (HM2.out _).mono ?_; rintro e w10 ⟨rfl, j2, rfl⟩))
          obtain ⟨AT1, cT1, e1, -, hmT, -, at1⟩ := S3.out.open2
          obtain ⟨AT3, cT3, e3, -, -, -, at3⟩ := S4.out.open2
          cases e1
          have hA3 : AT3 = A3 := by injection e3 with e3 _ _; exact e3.symm
          subst hA3
          have At1 := Lib.hid at1
          have At3 := Lib.hid at3
          obtain ⟨Tn, hTn⟩ : ∃ T, T = t.length := ⟨_, rfl⟩
          have HTn := Lib.hid hTn
          rw [← hTn] at x51 x81 hmT ⊢
          clear e3 at1 at3 hTn S3 S4
          go_loopw [100] (fun kv wr => ∃ k : Nat, k ≤ Tn ∧ kv = .int .i64 k ∧ ∃ j, wr = w8.drewN j) (fun kv _ => Tn - (intOf kv).toNat)
          case atStart => exact ⟨0, Nat.zero_le _, rfl, _, rfl⟩
          case round =>
            obtain ⟨k, hkT, rfl, j, rfl⟩ := hrel
            rcases Nat.lt_or_ge k Tn with hk | hk
            · have hk2 : k < t.length := by rw [← HTn.out]; exact hk
              obtain ⟨b1, o1, u1, rfl, -, hu1, hR1⟩ := At1.out.at_ RBool.stable (Ag.refl _ _) hk2
              obtain ⟨b3, o3, u3, rfl, -, hu3, hR3⟩ := At3.out.at_ RBool.stable (Ag.refl _ _) hk2
              obtain rfl := hR1
              obtain rfl := hR3
              obtain ⟨tb, htb⟩ : ∃ tb, tb = t[k] := ⟨_, rfl⟩
              rw [← htb] at hu1 hu3
              have zt : (tb != tb) = false := by simp
              clear htb hk2
              go_wp2
              go_quiet (fail)
              go_wp2
              go_roundw
              case rel => exact ⟨k + 1, by omega, by go_num, _, rfl⟩
              case measure => simp [intOf]; omega
            · obtain rfl : k = Tn := by omega
              go_wp2_with (go_at_call 9; with_reducible refine (lives_any _).mono ?_; rintro e w12 ⟨rfl, hb12⟩)
              go_ret
              exact ⟨rfl, HB1.out.trans ((below_drewN H18.out j).trans (hb12.mono (by have := H18.out.size; simpa using this)) |>.mono (Nat.le_of_lt hs1))⟩
    · have hz : (((E : Nat) : Int) != 0) = true := bne_iff_ne.2 (by omega)
      clear hE hE0
      go_wp2_with (first
        | (go_at_call 13; with_reducible refine HLt.out.mono ?_; rintro e w2 ⟨rfl, b2⟩; go_loud (have HBw := Lib.hid b2; have HB2 := Lib.hid (HB1.out.trans (b2.mono (Nat.le_of_lt hs1))); obtain ⟨⟨k0, k1⟩, k2⟩ := HKw.out w2 b2; have HM2 := Lib.hid (refSatMay_any v (.slice A N c) C w2 k2); rw [← HE.out] at HM2; clear b2 k2))
        | (go_at_call 10; with_reducible refine HM2.out.mono ?_; rintro e w3 ⟨rfl, b3⟩; go_loud (have HB3 := Lib.hid (HB2.out.trans (b3.mono (by have := HB2.out.size; rw [← HB0.out] at this; exact this))); clear b3))
        | (go_at_call 9; with_reducible refine (lives_any _).mono ?_; rintro e w5 ⟨rfl, hb5⟩))
      go_ret
      exact ⟨rfl, HB3.out.trans (hb5.mono (by have := HB3.out.size; rw [← HB0.out] at this; exact this))⟩
end Go.Proofs.Ytdepdceaojenoaa
