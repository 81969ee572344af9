/- For learn: what is seen, what is of use; the row that is learned, beside the solver. / Rows that are laid into a new solver. / A clause of the proof more, in memory. -/
import Derived.Test.YtcebafeaikipmaaZd
import Derived.Test.YtcebafeaikipmaaZf
namespace Go.Proofs.Ytcebafeaikipmaa.S15
open Go.RowKit

section
variable {w w' : World} {B S Q : Nat} {ad : List Nat} {vl : Rl → Value} {s : St}
/-- the solver's blocks lie below Q -/
def LoQ (S : Nat) (ad : List Nat) (vl : Rl → Value) (Q : Nat) : Prop := ∀ k, FP S ad vl k → k < Q
theorem SAt.loQ (h : SAt w B S ad vl s) : LoQ S ad vl w.heap.size := fun _ hk => (h.fpLo hk).2
theorem SAt.keepLo (h : SAt w B S ad vl s) (hlo : LoQ S ad vl Q) (hb : Below Q w w') : SAt w' B S ad vl s := by
  have key : ∀ k, FP S ad vl k → Kp w w' k := fun k hk o ho => (hb.block k (hlo k hk)).trans ho
  exact h.kp (fun r g hg => key g (.inr (.inl ⟨r, hg⟩))) (key S (.inl rfl)) fun c hc => key _ (.inr (.inr (h.memC hc)))
theorem Stp.outLo (h : Stp w B S ad vl w' ad vl) (hlo : LoQ S ad vl Q) {t : TypeId} {v : Value} {xs : List Value} (ho : OwnG w Q t v xs) : OwnG w' Q t v xs :=
  ho.kp fun g hg => h.kp fun hk => by have := hlo g hk; have := (ho.lt g hg).1; omega
theorem SAt.setSeen (h : SAt w B S ad vl s) {g n cap : Nat} (hv : vl .se = .slice (some ⟨g, 0, none⟩) n cap) (v : Nat) (b : Bool) : SAt (w.setCell ⟨g, v, none⟩ (.bool b)) B S ad vl (seeS s v b) ∧ Stp w B S ad vl (w.setCell ⟨g, v, none⟩ (.bool b)) ad vl :=
  ⟨h.setRow .se hv v _ _ (fun r hr => by cases r <;> first | rfl | exact absurd rfl hr) (by simp [cont, seeS, List.map_set]) rfl rfl (fun _ _ => rfl), h.stpRow .se hv v _⟩
theorem bumpS_yes {c : Nat} (h : 0 ≤ (s.cl c).used) : bumpS s c = setC s c { s.cl c with used := (s.cl c).used + 1 } := by unfold bumpS; rw [if_pos h]; rfl
theorem bumpS_no {c : Nat} (h : ¬ 0 ≤ (s.cl c).used) : bumpS s c = s := by unfold bumpS; rw [if_neg h]
theorem cont_setC {c : Nat} {x : Cl} (hx : x.lits = (s.cl c).lits) (r : Rl) : cont (setC s c x) ad vl r = cont s ad vl r := by
  cases r with
  | li d =>
    show iN ((setC s c x).cl d).lits = iN (s.cl d).lits
    rw [cl_setC]
    split
    · rename_i e; rw [hx, e.1]
    · rfl
  | _ => rfl
/-- how often a clause was of use is set -/
theorem SAt.setUsed (h : SAt w B S ad vl s) {c : Nat} (hc : c < s.cls.length) (u : Int) : SAt (w.setCell ⟨ad.getD c 0, 1, none⟩ (.int .i64 u)) B S ad vl (setC s c { s.cl c with used := u }) ∧ Stp w B S ad vl (w.setCell ⟨ad.getD c 0, 1, none⟩ (.int .i64 u)) ad vl := by
  refine ⟨h.setCl hc 1 _ _ (cont_setC (x := { s.cl c with used := u }) rfl) rfl (by simp [setC]) (fun d hd hne => ?_) ?_, h.stpCl hc 1 _⟩
  · unfold fieldsC; rw [cl_setC, if_neg fun e => hne e.1]
  · unfold fieldsC; rw [cl_setC, if_pos ⟨rfl, hc⟩]; rfl
theorem SAt.setGone (h : SAt w B S ad vl s) {c : Nat} (hc : c < s.cls.length) (u : Bool) : SAt (w.setCell ⟨ad.getD c 0, 2, none⟩ (.bool u)) B S ad vl (setC s c { s.cl c with gone := u }) ∧ Stp w B S ad vl (w.setCell ⟨ad.getD c 0, 2, none⟩ (.bool u)) ad vl := by
  refine ⟨h.setCl hc 2 _ _ (cont_setC (x := { s.cl c with gone := u }) rfl) rfl (by simp [setC]) (fun d hd hne => ?_) ?_, h.stpCl hc 2 _⟩
  · unfold fieldsC; rw [cl_setC, if_neg fun e => hne e.1]
  · unfold fieldsC; rw [cl_setC, if_pos ⟨rfl, hc⟩]; rfl
theorem foldlit_succ {q : St × Nat × List Nat} {l : List Nat} {j : Nat} (h : j < l.length) : (l.take (j + 1)).foldl litS q = litS ((l.take j).foldl litS q) l[j] := by
  rw [List.take_succ_eq_append_getElem h, List.foldl_append]; rfl
theorem litS_skip {q : St × Nat × List Nat} {x : Nat} (h : q.1.sn (x / 2) = true ∨ q.1.lv x = 0 ∨ q.1.val x ≠ 2) : litS q x = q := by unfold litS; exact if_pos h
theorem litS_go {q : St × Nat × List Nat} {x : Nat} (h1 : q.1.sn (x / 2) = false) (h2 : q.1.lv x ≠ 0) (h3 : q.1.val x = 2) :
    litS q x = (meetS (seeS q.1 (x / 2) true) (x / 2), if q.1.lv x = q.1.ends.length then (q.2.1 + 1, q.2.2) else (q.2.1, q.2.2 ++ [x])) := by
  unfold litS
  have e1 : q.1.seen.getD (x / 2) false = q.1.sn (x / 2) := rfl
  have e2 : q.1.level.getD (x / 2) 0 = q.1.lv x := rfl
  simp only [e1, e2]
  rw [if_neg (by simp [h1, h2, h3])]
  by_cases e : q.1.lv x = q.1.ends.length
  · rw [if_pos e, if_pos e]; rfl
  · rw [if_neg e, if_neg e]; rfl
/-- what is read of a solver's row -/
theorem SAt.rdSe (h : SAt w B S ad vl s) {v : Nat} (hv : v < s.seen.length) : ∃ g c, vl .se = .slice (some ⟨g, 0, none⟩) s.seen.length c ∧ w.cell? ⟨S, 14, none⟩ = some (.slice (some ⟨g, 0, none⟩) s.seen.length c) ∧ w.cell? ⟨g, v, none⟩ = some (.bool (s.sn v)) ∧ w.frozen? ⟨g, v, none⟩ = false ∧ g ≠ S ∧ s.seen.length ≤ c := by
  obtain ⟨g, c, hr, -, -, hc, -⟩ := (h.rows .se).form (by simp [cont]; omega)
  simp only [cont, List.length_map] at hr hc
  have c0 := h.cellS (k := 14) (v := vl .se) rfl
  have e0 := h.rows .se
  rw [hr] at c0 e0
  refine ⟨g, c, hr, c0, e0.cell ?_, e0.frozen v, h.neS .se (by rw [hr]; rfl), hc⟩
  simp only [cont, List.getElem?_map, St.sn, List.getD_eq_getElem?_getD]
  rw [List.getElem?_eq_getElem hv]; rfl
theorem SAt.rdLe (h : SAt w B S ad vl s) {x : Nat} (hv : x / 2 < s.level.length) : ∃ g c, vl .le = .slice (some ⟨g, 0, none⟩) s.level.length c ∧ w.cell? ⟨S, 5, none⟩ = some (.slice (some ⟨g, 0, none⟩) s.level.length c) ∧ w.cell? ⟨g, x / 2, none⟩ = some (.int .i64 (s.lv x : Nat)) ∧ s.level.length ≤ c := by
  obtain ⟨g, c, hr, -, -, hc, -⟩ := (h.rows .le).form (by simp [cont]; omega)
  simp only [cont, List.length_map] at hr hc
  have c0 := h.cellS (k := 5) (v := vl .le) rfl
  have e0 := h.rows .le
  rw [hr] at c0 e0
  refine ⟨g, c, hr, c0, e0.cell ?_, hc⟩
  simp only [cont, List.getElem?_map, St.lv, List.getD_eq_getElem?_getD]
  rw [List.getElem?_eq_getElem hv]; rfl
theorem SAt.rdVa (h : SAt w B S ad vl s) {x : Nat} (hv : x < s.value.length) : ∃ g c, vl .va = .slice (some ⟨g, 0, none⟩) s.value.length c ∧ w.cell? ⟨S, 4, none⟩ = some (.slice (some ⟨g, 0, none⟩) s.value.length c) ∧ w.cell? ⟨g, x, none⟩ = some (.int .u8 (s.val x : Nat)) ∧ s.value.length ≤ c := by
  obtain ⟨g, c, hr, -, -, hc, -⟩ := (h.rows .va).form (by simp [cont]; omega)
  simp only [cont, List.length_map] at hr hc
  have c0 := h.cellS (k := 4) (v := vl .va) rfl
  have e0 := h.rows .va
  rw [hr] at c0 e0
  refine ⟨g, c, hr, c0, e0.cell ?_, hc⟩
  simp only [cont, List.getElem?_map, St.val, List.getD_eq_getElem?_getD]
  rw [List.getElem?_eq_getElem hv]; rfl
theorem SAt.rdTr (h : SAt w B S ad vl s) {p x : Nat} (hp : s.trail[p]? = some x) : ∃ g c, vl .tr = .slice (some ⟨g, 0, none⟩) s.trail.length c ∧ w.cell? ⟨S, 10, none⟩ = some (.slice (some ⟨g, 0, none⟩) s.trail.length c) ∧ w.cell? ⟨g, p, none⟩ = some (.int .i64 (x : Int)) ∧ s.trail.length ≤ c := by
  have hlt := (List.getElem?_eq_some_iff.1 hp).1
  obtain ⟨g, c, hr, -, -, hc, -⟩ := (h.rows .tr).form (by simp [cont]; omega)
  simp only [cont, List.length_map] at hr hc
  have c0 := h.cellS (k := 10) (v := vl .tr) rfl
  have e0 := h.rows .tr
  rw [hr] at c0 e0
  refine ⟨g, c, hr, c0, e0.cell ?_, hc⟩
  simp only [cont, List.getElem?_map, hp]; rfl
theorem SAt.rdLi (h : SAt w B S ad vl s) {c : Nat} {g n cp : Nat} (hr : vl (.li c) = .slice (some ⟨g, 0, none⟩) n cp) {j x : Nat} (hx : (s.cl c).lits[j]? = some x) : w.cell? ⟨g, j, none⟩ = some (.int .i64 (x : Int)) := by
  have e0 := h.rows (.li c)
  rw [hr] at e0
  refine e0.cell ?_
  simp only [cont, List.getElem?_map, hx]; rfl
theorem SAt.rdRe (h : SAt w B S ad vl s) {v : Nat} (hv : v < s.reason.length) : ∃ g c, vl .re = .slice (some ⟨g, 0, none⟩) s.reason.length c ∧ w.cell? ⟨S, 6, none⟩ = some (.slice (some ⟨g, 0, none⟩) s.reason.length c) ∧ w.cell? ⟨g, v, none⟩ = some (oC ad (s.reason.getD v none)) ∧ s.reason.length ≤ c := by
  obtain ⟨g, c, hr, -, -, hc, -⟩ := (h.rows .re).form (by simp [cont]; omega)
  simp only [cont, List.length_map] at hr hc
  have c0 := h.cellS (k := 6) (v := vl .re) rfl
  have e0 := h.rows .re
  rw [hr] at c0 e0
  refine ⟨g, c, hr, c0, e0.cell ?_, hc⟩
  simp only [cont, List.getElem?_map, List.getD_eq_getElem?_getD]
  rw [List.getElem?_eq_getElem hv]; rfl
theorem Lw.opLe {s0 : St} {at_ opn k : Nat} {out : List Nat} (h : Lw s0 s at_ opn out k) : opn ≤ s0.trail.length := by
  rw [h.op]
  exact Nat.le_trans List.countP_le_length (by simp; omega)
theorem Lw.outLen {U : Nat → Prop} {s0 : St} {at_ opn k : Nat} {out : List Nat} (hT : Tr U s0) (h : Lw s0 s at_ opn out k) : out.length ≤ s0.vars + 2 := by
  obtain ⟨tl, t1, t2, t3, t4⟩ := h.hd
  have : (tl.map (· / 2)).length ≤ s0.vars + 1 := nodup_le' t2 fun v hv => by
    obtain ⟨y, hy, rfl⟩ := List.mem_map.1 hv
    have := hT.ok _ (t3 y hy).2.1
    have := (okL_nt this).2
    rw [nt_nt] at this
    show y / 2 < _
    omega
  rw [t1]; simp at this ⊢; omega
theorem Stp.outNew {w0 : World} (h : Stp w0 B S ad vl w ad vl) (hb : Below w0.heap.size w w') (hB : B ≤ w0.heap.size) : Stp w0 B S ad vl w' ad vl :=
  ⟨h.below.trans (hb.mono hB), fun k hk hn => (hb.block k hk).trans (h.ch k hk hn), h.fp⟩
theorem out_push {e : TypeId} {v : Value} {xs : List Value} {w7 : World} (ho : OwnG w Q e v xs) (hQ : Q ≤ w.heap.size) (o : Obj) (hg : (w.alloc o).grownBy w7 v.ownBlock) : Below Q w w7 :=
  ((ch_new (below_alloc w o) _).trans (ch_grown hg)).below (fun _ hk => (ho.lt _ hk.symm).1) hQ
theorem mxS_no {i lv x lx : Nat} {T : St} {O : List Nat} (hx : O.getD (i + 1) 0 = x) (hl : T.lv x = lx) (h : ¬ lv < lx) : mxS i T O lv = (seeS T (x / 2) false, O, lv) := by
  unfold mxS
  have e : T.level.getD (x / 2) 0 = lx := hl
  simp only [hx, e]
  rw [if_neg h]
theorem mxS_yes {i lv x lx : Nat} {T : St} {O : List Nat} (hx : O.getD (i + 1) 0 = x) (hl : T.lv x = lx) (h : lv < lx) : mxS i T O lv = (seeS T (x / 2) false, swp O 1 (i + 1), lx) := by
  unfold mxS
  have e : T.level.getD (x / 2) 0 = lx := hl
  simp only [hx, e]
  rw [if_pos h]
theorem maxS_at {R : St × List Nat × Nat} {n i : Nat} {T : St} {O : List Nat} {lv : Nat} (h : R = maxS (n - i) i T O lv) (hi : i < n) : R = maxS (n - (i + 1)) (i + 1) (mxS i T O lv).1 (mxS i T O lv).2.1 (mxS i T O lv).2.2 := by
  rw [h, show n - i = (n - (i + 1)) + 1 by omega, maxS_go]
theorem Mx.len {s0 : St} {a i lv k : Nat} {r0 out : List Nat} (h : Mx s0 s a r0 i out lv k) : out.length = r0.length + 1 := by
  obtain ⟨r, h1, h2, _⟩ := h.hd
  rw [h1, List.length_cons, h2.length_eq]
/-- two literals of the learned row change their places -/
theorem OwnG.swap {t : TypeId} {g n cp i j : Nat} {O : List Nat} (h : OwnG w Q t (.slice (some ⟨g, 0, none⟩) n cp) (iN O)) {x y : Nat} (hx : O.getD i 0 = x) (hy : O.getD j 0 = y) :
    OwnG ((w.setCell ⟨g, i, none⟩ (.int .i64 (y : Int))).setCell ⟨g, j, none⟩ (.int .i64 (x : Int))) Q t (.slice (some ⟨g, 0, none⟩) n cp) (iN (swp O i j)) := by
  have h2 := (h.set i (.int .i64 (y : Int))).set j (.int .i64 (x : Int))
  have e : ((iN O).set i (.int .i64 (y : Int))).set j (.int .i64 (x : Int)) = iN (swp O i j) := by
    unfold swp
    rw [hx, hy]
    simp [List.map_set]
  rw [e] at h2
  exact h2
end
end Go.Proofs.Ytcebafeaikipmaa.S15

namespace Go.Proofs.Ytcebafeaikipmaa.S15
open Go.RowKit

section
variable {w w' : World} {B S : Nat} {ad : List Nat} {vl : Rl → Value} {s : St}
/-- a field of the solver holds another row, which stands apart -/
theorem SAt.setFree (h : SAt w B S ad vl s) (r : Rl) {v : Value} (k : Nat) (s' : St) (hown : OwnG w B (ty r) v (cont s' ad (updV vl r v) r)) (hfr : ∀ g, v.ownBlock = some g → ¬ FP S ad vl g)
    (hc : ∀ r', r' ≠ r → cont s' ad (updV vl r v) r' = cont s ad vl r') (hf : fieldsS s' (updV vl r v) = (fieldsS s vl).setIfInBounds k v)
    (hcl : s'.cls.length = s.cls.length) (hfc : ∀ c, c < s.cls.length → fieldsC s' (updV vl r v) c = fieldsC s vl c) : SAt (w.setCell ⟨S, k, none⟩ v) B S ad (updV vl r v) s' := by
  refine ⟨fun r' => ?_, ?_, ?_, fun c hc' => ?_, h.loS, fun c hc' => h.loC c (by omega), fun c d hc' hd => h.inj c d (by omega) (by omega), by rw [h.adl]; omega⟩
  · by_cases e : r' = r
    · subst e
      rw [updV_same]
      exact hown.kp fun g hg => kp_set w S k v fun e => hfr g hg (.inl e)
    · rw [hc r' e, updV_ne _ _ e]
      exact (h.rows r').kp fun g hg => kp_set w S k v (h.neS r' hg)
  · intro r1 r2 g h1 h2
    by_cases e1 : r1 = r
    · by_cases e2 : r2 = r
      · rw [e1, e2]
      · subst e1
        rw [updV_same] at h1
        rw [updV_ne _ _ e2] at h2
        exact (hfr g h1 (.inr (.inl ⟨_, h2⟩))).elim
    · by_cases e2 : r2 = r
      · subst e2
        rw [updV_same] at h2
        rw [updV_ne _ _ e1] at h1
        exact (hfr g h2 (.inr (.inl ⟨_, h1⟩))).elim
      · rw [updV_ne _ _ e1] at h1
        rw [updV_ne _ _ e2] at h2
        exact h.apart _ _ _ h1 h2
  · rw [hf]; exact heap_setCell_same w S k _ _ v h.hS
  · rw [hfc c (by omega)]
    exact (kp_set w S k v (fun e => h.neSC (c := c) (by omega) e.symm)).at_ (h.cl c (by omega))
theorem fp_free {r : Rl} {v : Value} {g : Nat} (hg : ¬ FP S ad vl g) (hv : v.ownBlock ≠ some g) : ¬ FP S ad (updV vl r v) g := by
  rintro (e | ⟨r', hr⟩ | e)
  · exact hg (.inl e)
  · by_cases e : r' = r
    · subst e; rw [updV_same] at hr; exact hv hr
    · rw [updV_ne _ _ e] at hr; exact hg (.inr (.inl ⟨r', hr⟩))
  · exact hg (.inr (.inr e))
/-- two rows made one after the other; three -/
theorem made_row (w : World) (t : TypeId) (z : Value) {n : Nat} (hn : n ≤ 1000000000000) : OwnG (w.alloc (.cells (madeCells #[z] n) t)) w.heap.size t (.slice (some ⟨w.heap.size, 0, none⟩) n n) (List.replicate n z) := OwnG.of_own (own_made w t z n hn)
theorem own_up {B : Nat} {t : TypeId} {v : Value} {xs : List Value} (h : OwnG w B t v xs) (hb : Below w.heap.size w w') : OwnG w' B t v xs := h.kp fun _ _ => kp_new hb _
theorem own_base {B C : Nat} {t : TypeId} {v : Value} {xs : List Value} (h : OwnG w B t v xs) (hb : C ≤ B) : OwnG w C t v xs := by
  rcases h with h | ⟨g, cap, cur, h1, h2, h3⟩
  · exact .inl h
  · exact .inr ⟨g, cap, cur, h1, Nat.le_trans hb h2, h3⟩
theorem made_two (w : World) (t1 t2 : TypeId) (z1 z2 : Value) {n : Nat} (hn : n ≤ 1000000000000) {W : World} (hW : W = (w.alloc (.cells (madeCells #[z1] n) t1)).alloc (.cells (madeCells #[z2] n) t2)) :
    OwnG W w.heap.size t1 (.slice (some ⟨w.heap.size, 0, none⟩) n n) (List.replicate n z1) ∧ OwnG W w.heap.size t2 (.slice (some ⟨w.heap.size + 1, 0, none⟩) n n) (List.replicate n z2) ∧ Below w.heap.size w W := by
  subst hW
  have h1 := own_up (made_row w t1 z1 hn) (below_alloc _ (.cells (madeCells #[z2] n) t2))
  have h2 := made_row (w.alloc (.cells (madeCells #[z1] n) t1)) t2 z2 hn
  have e : (w.alloc (.cells (madeCells #[z1] n) t1)).heap.size = w.heap.size + 1 := by simp
  rw [e] at h2
  exact ⟨h1, own_base h2 (by omega), (below_alloc w _).trans ((below_alloc _ _).mono (by rw [e]; omega))⟩
theorem made_three (w : World) (t1 t2 t3 : TypeId) (z1 z2 z3 : Value) {n : Nat} (hn : n ≤ 1000000000000) {W : World} (hW : W = ((w.alloc (.cells (madeCells #[z1] n) t1)).alloc (.cells (madeCells #[z2] n) t2)).alloc (.cells (madeCells #[z3] n) t3)) :
    OwnG W w.heap.size t1 (.slice (some ⟨w.heap.size, 0, none⟩) n n) (List.replicate n z1) ∧ OwnG W w.heap.size t2 (.slice (some ⟨w.heap.size + 1, 0, none⟩) n n) (List.replicate n z2) ∧ OwnG W w.heap.size t3 (.slice (some ⟨w.heap.size + 1 + 1, 0, none⟩) n n) (List.replicate n z3) ∧ Below w.heap.size w W := by
  obtain ⟨h1, h2, h3⟩ := made_two w t1 t2 z1 z2 hn rfl
  subst hW
  have hb := below_alloc ((w.alloc (.cells (madeCells #[z1] n) t1)).alloc (.cells (madeCells #[z2] n) t2)) (.cells (madeCells #[z3] n) t3)
  have h4 := made_row ((w.alloc (.cells (madeCells #[z1] n) t1)).alloc (.cells (madeCells #[z2] n) t2)) t3 z3 hn
  have e : ((w.alloc (.cells (madeCells #[z1] n) t1)).alloc (.cells (madeCells #[z2] n) t2)).heap.size = w.heap.size + 1 + 1 := by simp
  rw [e] at h4
  exact ⟨own_up h1 hb, own_up h2 hb, own_base h4 (by omega), h3.trans (hb.mono (by rw [e]; omega))⟩
end
end Go.Proofs.Ytcebafeaikipmaa.S15

namespace Go.Proofs.Ytcebafeaikipmaa.S15
open Go.RowKit

section
variable {w w' : World} {B S Q : Nat} {ad : List Nat} {vl : Rl → Value} {s : St}
def addPr (s : St) (P : List Int) : St := { s with proof := s.proof ++ [P] }
theorem SAt.addP (h : SAt w B S ad vl s) {w0 : World} (p : Stp w0 B S ad vl w ad vl) {P : List Int} {nv : Value} (hnv : OwnG w B 3 nv (P.map (.int .i64))) (hlo : LoQ S ad vl w0.heap.size) (hnew : ∀ g, nv.ownBlock = some g → w0.heap.size ≤ g)
    {v : Value} {w5 wa : World} (hb : Below w.heap.size w wa) (hown : OwnG w5 B 37 v (cont s ad vl .pr ++ [nv])) (hg : wa.grownBy w5 (vl .pr).ownBlock) (hn : NewOr wa (vl .pr) v) :
    SAt (w5.setCell ⟨S, 13, none⟩ v) B S ad (updV (updV vl (.pw s.proof.length) nv) .pr v) (addPr s P) ∧ Stp w0 B S ad vl (w5.setCell ⟨S, 13, none⟩ v) ad (updV (updV vl (.pw s.proof.length) nv) .pr v) ∧ w5.heap[S]? = some (.cells (fieldsS s vl) 91 (0, 0)) := by
  have hch : Ch (fun i => some i = (vl .pr).ownBlock) w w5 := (ch_new hb _).trans (ch_grown hg)
  have hn' := newOr_up hb hn
  have hS5 : w5.heap[S]? = _ := (hch.kp (k := S) (fun e => h.neS _ e.symm rfl)).at_ h.hS
  have hnfp : ∀ g, nv.ownBlock = some g → ¬ FP S ad vl g := fun g hg2 hf => by have := hnew g hg2; have := hlo g hf; omega
  have hnlt : ∀ g, nv.ownBlock = some g → g < w.heap.size := fun g hg2 => (hnv.lt g hg2).2
  have hsz := h.size
  obtain ⟨vl', hvl'⟩ : ∃ vl', vl' = updV (updV vl (.pw s.proof.length) nv) .pr v := ⟨_, rfl⟩
  have v1 : vl' .pr = v := by rw [hvl', updV_same]
  have v2 : vl' (.pw s.proof.length) = nv := by rw [hvl', updV_ne _ _ (by simp), updV_same]
  have v3 : ∀ r, r ≠ .pr → r ≠ .pw s.proof.length → vl' r = vl r := fun r h1 h2 => by rw [hvl', updV_ne _ _ h1, updV_ne _ _ h2]
  rw [← hvl']
  have vblk : ∀ g, v.ownBlock = some g → (vl .pr).ownBlock = some g ∨ w.heap.size ≤ g := hn'
  have hfS : fieldsS (addPr s P) vl' = (fieldsS s vl).setIfInBounds 13 v := by
    have e : ∀ r, (r = .cs ∨ r = .ln ∨ r = .wt ∨ r = .va ∨ r = .le ∨ r = .re ∨ r = .ph ∨ r = .ac ∨ r = .tr ∨ r = .en ∨ r = .se) → vl' r = vl r := fun r hr => v3 r (by rintro rfl; simp at hr) (by rintro rfl; simp at hr)
    unfold fieldsS addPr
    simp only [e .cs (by simp), e .ln (by simp), e .wt (by simp), e .va (by simp), e .le (by simp), e .re (by simp), e .ph (by simp), e .ac (by simp), e .tr (by simp), e .en (by simp), e .se (by simp), v1]
    rfl
  have hcpr : cont (addPr s P) ad vl' .pr = cont s ad vl .pr ++ [nv] := by
    simp only [cont, addPr, List.length_append, List.length_singleton, List.range_succ, List.map_append, List.map_singleton, v2]
    congr 1
    refine List.map_congr_left fun i hi => v3 _ (by simp) fun e => ?_
    injection e with e
    rw [List.mem_range] at hi
    omega
  have hcpw : cont (addPr s P) ad vl' (.pw s.proof.length) = P.map (.int .i64) := by
    simp [cont, addPr]
  have hc : ∀ r, r ≠ .pr → r ≠ .pw s.proof.length → cont (addPr s P) ad vl' r = cont s ad vl r := fun r h1 h2 => by
    cases r with
    | pr => exact (h1 rfl).elim
    | wt => exact List.map_congr_left fun i _ => v3 _ (by simp) (by simp)
    | pw i =>
      have hne : i ≠ s.proof.length := fun e => h2 (by rw [e])
      simp only [cont, addPr, List.getD_eq_getElem?_getD]
      rcases Nat.lt_or_ge i s.proof.length with k | k
      · rw [List.getElem?_append_left k]
      · rw [List.getElem?_eq_none (by simp; omega), List.getElem?_eq_none (by omega)]
    | _ => rfl
  have gS : ∀ g, v.ownBlock = some g → g ≠ S := fun g hg2 e => by
    rcases vblk g hg2 with k | k
    · exact h.neS .pr k e
    · have := h.lt; omega
  refine ⟨⟨fun r => ?_, ?_, ?_, fun c hc' => ?_, h.loS, h.loC, h.inj, h.adl⟩, ⟨?_, ?_, ?_⟩, hS5⟩
  · by_cases e1 : r = .pr
    · subst e1
      rw [v1, hcpr]
      exact hown.kp fun g hg2 => kp_set w5 S 13 v (gS g hg2)
    · by_cases e2 : r = .pw s.proof.length
      · subst e2
        rw [v2, hcpw]
        exact hnv.kp fun g hg2 => (hch.kp fun e => hnfp g hg2 (.inr (.inl ⟨.pr, e.symm⟩))).trans (kp_set w5 S 13 v fun e => hnfp g hg2 (.inl e))
      · rw [v3 r e1 e2, hc r e1 e2]
        exact (h.rows r).kp fun g hg2 => (hch.kp fun e => e1 (h.apart _ _ _ hg2 e.symm)).trans (kp_set w5 S 13 v (h.neS r hg2))
  · have key : ∀ r g, r ≠ .pr → r ≠ .pw s.proof.length → (vl r).ownBlock = some g → v.ownBlock ≠ some g ∧ nv.ownBlock ≠ some g := fun r g h1 h2 h3 => by
      refine ⟨fun h4 => ?_, fun h4 => hnfp g h4 (.inr (.inl ⟨r, h3⟩))⟩
      rcases vblk g h4 with k | k
      · exact h1 (h.apart _ _ _ h3 k)
      · have := ((h.rows r).lt g h3).2; omega
    have key2 : ∀ g, v.ownBlock = some g → nv.ownBlock ≠ some g := fun g h3 h4 => by
      rcases vblk g h3 with k | k
      · exact hnfp g h4 (.inr (.inl ⟨.pr, k⟩))
      · have := hnlt g h4; omega
    intro r1 r2 g h1 h2
    by_cases a1 : r1 = .pr
    · subst a1
      rw [v1] at h1
      by_cases b1 : r2 = .pr
      · exact b1.symm
      · by_cases b2 : r2 = .pw s.proof.length
        · subst b2; rw [v2] at h2; exact (key2 g h1 h2).elim
        · rw [v3 _ b1 b2] at h2; exact ((key _ g b1 b2 h2).1 h1).elim
    · by_cases a2 : r1 = .pw s.proof.length
      · subst a2
        rw [v2] at h1
        by_cases b1 : r2 = .pr
        · subst b1; rw [v1] at h2; exact (key2 g h2 h1).elim
        · by_cases b2 : r2 = .pw s.proof.length
          · exact b2.symm
          · rw [v3 _ b1 b2] at h2; exact ((key _ g b1 b2 h2).2 h1).elim
      · rw [v3 _ a1 a2] at h1
        by_cases b1 : r2 = .pr
        · subst b1; rw [v1] at h2; exact ((key _ g a1 a2 h1).1 h2).elim
        · by_cases b2 : r2 = .pw s.proof.length
          · subst b2; rw [v2] at h2; exact ((key _ g a1 a2 h1).2 h2).elim
          · rw [v3 _ b1 b2] at h2; exact h.apart _ _ _ h1 h2
  · rw [hfS]; exact heap_setCell_same w5 S 13 _ _ v hS5
  · have hfc : fieldsC (addPr s P) vl' c = fieldsC s vl c := by
      unfold fieldsC
      rw [v3 _ (by simp) (by simp)]
      rfl
    rw [hfc]
    exact (kp_set w5 S 13 v (fun e => h.neSC (c := c) hc' e.symm)).at_ ((hch.kp fun e => h.neC .pr (c := c) e.symm hc' rfl).at_ (h.cl c hc'))
  · refine p.below.trans (((hch.below (fun k hk => ((h.rows .pr).lt k hk.symm).1) hsz)).trans ((Below.refl _ _).setCell (p := ⟨S, 13, none⟩) h.loS _))
  · intro k hk hnf
    have hkw : k < w.heap.size := Nat.lt_of_lt_of_le hk p.below.size
    have h1 : w5.heap[k]? = w.heap[k]? := hch.block k hkw fun e => hnf (.inr (.inl ⟨.pr, e.symm⟩))
    have h2 : (w5.setCell ⟨S, 13, none⟩ v).heap[k]? = w5.heap[k]? := Below.heap_setCell _ _ _ _ fun e => hnf (.inl e)
    rw [h2, h1]; exact p.ch k hk hnf
  · rintro k (e | ⟨r, hr⟩ | e)
    · exact p.fp k (.inl e)
    · by_cases e1 : r = .pr
      · subst e1
        rw [v1] at hr
        rcases vblk k hr with q | q
        · exact p.fp k (.inr (.inl ⟨.pr, q⟩))
        · exact .inr (Nat.le_trans p.below.size q)
      · by_cases e2 : r = .pw s.proof.length
        · subst e2; rw [v2] at hr; exact .inr (hnew k hr)
        · rw [v3 _ e1 e2] at hr; exact p.fp k (.inr (.inl ⟨r, hr⟩))
    · exact p.fp k (.inr (.inr e))
end
end Go.Proofs.Ytcebafeaikipmaa.S15
