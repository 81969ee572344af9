/- What learning does: the literal of the greatest level is put second. Plain. / Going back, a literal more, a clause more, deciding, forgetting: what holds stays. Plain. / A clause more, keeping, deciding, forgetting, the start: what holds stays. Plain. / .. -/
import Derived.Test.YtcebafeaikipmaaZc
namespace Go.Proofs.Ytcebafeaikipmaa.S15

/-- place i of the row behind the first literal -/
structure Mx (s0 s : St) (a : Nat) (r0 : List Nat) (i : Nat) (out : List Nat) (lv : Nat) (k : Nat) : Prop where
  fr : Lf s0 s k
  av : Av s
  st : s.step < 1099511627776
  sv : ∀ v, s.sn v = true ↔ ∃ y ∈ r0.drop i, v = y / 2
  hd : ∃ r, out = a :: r ∧ r.Perm r0 ∧ (∀ j, i ≤ j → r[j]? = r0[j]?) ∧ (∀ j y, j < i → r[j]? = some y → s0.lv y ≤ lv) ∧ (i = 0 → lv = 0) ∧ (1 ≤ i → ∃ y, r[0]? = some y ∧ s0.lv y = lv)
section
variable {s0 s : St} {a i lv k : Nat} {r0 out : List Nat}
def mxS (i : Nat) (s : St) (out : List Nat) (lv : Nat) : St × List Nat × Nat :=
  let x := out.getD (i + 1) 0
  if lv < s.level.getD (x / 2) 0 then (seeS s (x / 2) false, swp out 1 (i + 1), s.level.getD (x / 2) 0) else (seeS s (x / 2) false, out, lv)
theorem maxS_go (n i : Nat) (s : St) (out : List Nat) (lv : Nat) : maxS (n + 1) i s out lv = maxS n (i + 1) (mxS i s out lv).1 (mxS i s out lv).2.1 (mxS i s out lv).2.2 := by
  rw [maxS]
  unfold mxS
  simp only
  have e : (({ s with seen := s.seen.set (out.getD (i + 1) 0 / 2) false } : St).level) = s.level := rfl
  rw [e]
  by_cases h : lv < s.level.getD (out.getD (i + 1) 0 / 2) 0
  · rw [if_pos h, if_pos h]; rfl
  · rw [if_neg h, if_neg h]; rfl
theorem swp_cons (a : Nat) (r : List Nat) (i : Nat) : swp (a :: r) 1 (i + 1) = a :: swp r 0 i := by unfold swp; simp
theorem Mx.at_ (h : Mx s0 s a r0 i out lv k) : out.getD (i + 1) 0 = r0.getD i 0 := by
  obtain ⟨r, h1, h2, h3, _⟩ := h.hd
  rw [h1]
  simp only [List.getD_eq_getElem?_getD, List.getElem?_cons_succ]
  rw [h3 i (Nat.le_refl _)]
theorem Mx.step (hn : (r0.map (· / 2)).Nodup) (hsl : ∀ y ∈ r0, y / 2 < s0.seen.length) (h : Mx s0 s a r0 i out lv k) (hi : i < r0.length) : Mx s0 (mxS i s out lv).1 a r0 (i + 1) (mxS i s out lv).2.1 (mxS i s out lv).2.2 k := by
  have hx := h.at_
  obtain ⟨x, hxd⟩ : ∃ x, x = r0.getD i 0 := ⟨_, rfl⟩
  have hxi : r0[i]? = some x := by rw [hxd, List.getD_eq_getElem?_getD, List.getElem?_eq_getElem hi]; rfl
  have hxm : x ∈ r0 := List.mem_of_getElem? hxi
  rw [← hxd] at hx
  unfold mxS
  rw [hx]
  have hlv : s.level.getD (x / 2) 0 = s0.lv x := h.fr.lv x
  simp only [hlv]
  have hlt : x / 2 < s.seen.length := by rw [h.fr.seen]; exact hsl x hxm
  have hsv : ∀ v, (seeS s (x / 2) false).sn v = true ↔ ∃ y ∈ r0.drop (i + 1), v = y / 2 := fun v => by
    rw [sn_see hlt]
    have hdr : r0.drop i = x :: r0.drop (i + 1) := by
      rw [List.drop_eq_getElem_cons hi]
      congr 1
      rw [List.getElem?_eq_getElem hi] at hxi
      exact Option.some.inj hxi
    by_cases e : v = x / 2
    · rw [if_pos e]
      refine ⟨fun h => (by cases h), ?_⟩
      rintro ⟨y, hy, hy2⟩
      have h5 := hn.sublist ((List.drop_sublist i r0).map (· / 2))
      rw [hdr, List.map_cons, List.nodup_cons] at h5
      exact (h5.1 (List.mem_map.2 ⟨y, hy, by rw [← hy2, e]⟩)).elim
    · rw [if_neg e, h.sv v, hdr]
      constructor
      · rintro ⟨y, hy, hy2⟩
        rcases List.mem_cons.1 hy with k | k
        · subst k; exact (e hy2).elim
        · exact ⟨y, k, hy2⟩
      · rintro ⟨y, hy, hy2⟩; exact ⟨y, List.mem_cons_of_mem _ hy, hy2⟩
  have hfr := h.fr.trans (lf_see s (x / 2) false)
  obtain ⟨r, h1, h2, h3, h4, h5, h6⟩ := h.hd
  have hir : i < r.length := by rw [h2.length_eq]; exact hi
  have hri : r[i]? = some x := by rw [h3 i (Nat.le_refl _)]; exact hxi
  by_cases hc : lv < s0.lv x
  · rw [if_pos hc]
    show Mx s0 (seeS s (x / 2) false) a r0 (i + 1) (swp out 1 (i + 1)) (s0.lv x) k
    refine ⟨hfr, ⟨h.av.ac, h.av.st⟩, h.st, hsv, swp r 0 i, by rw [h1, swp_cons], (swp_perm (by omega) hir).trans h2, fun j hj => ?_, fun j y hj hy => ?_, fun e => by omega, fun _ => ⟨x, ?_, rfl⟩⟩
    · rw [← h3 j (by omega)]
      unfold swp
      rw [List.getElem?_set_ne (by omega), List.getElem?_set_ne (by omega)]
    · have hg := swp_at r (i := 0) (j := i) (by omega) hir j
      have hyg : (swp r 0 i).getD j 0 = y := by rw [List.getD_eq_getElem?_getD, hy]; rfl
      rw [hyg] at hg
      split at hg
      · rename_i e
        subst e
        by_cases e2 : j = 0
        · subst e2
          rw [List.getD_eq_getElem?_getD, hri] at hg
          rw [hg]; exact Nat.le_refl _
        · obtain ⟨z, hz1, hz2⟩ := h6 (by omega)
          rw [List.getD_eq_getElem?_getD, hz1] at hg
          rw [hg]
          show s0.lv z ≤ _
          omega
      · split at hg
        · rw [List.getD_eq_getElem?_getD, hri] at hg
          rw [hg]; exact Nat.le_refl _
        · have hjr : j < r.length := by omega
          have := h4 j (r.getD j 0) (by omega) (by rw [List.getD_eq_getElem?_getD, List.getElem?_eq_getElem hjr]; rfl)
          rw [hg]; omega
    · unfold swp
      by_cases e : i = 0
      · subst e
        rw [List.getElem?_set_self (by simpa using hir), List.getD_eq_getElem?_getD, hri]; rfl
      · rw [List.getElem?_set_ne e, List.getElem?_set_self (by omega), List.getD_eq_getElem?_getD, hri]; rfl
  · rw [if_neg hc]
    show Mx s0 (seeS s (x / 2) false) a r0 (i + 1) out lv k
    refine ⟨hfr, ⟨h.av.ac, h.av.st⟩, h.st, hsv, r, h1, h2, fun j hj => h3 j (by omega), fun j y hj hy => ?_, fun e => by omega, fun _ => ?_⟩
    · rcases Nat.lt_or_eq_of_le (Nat.le_of_lt_succ hj) with k | k
      · exact h4 j y k hy
      · subst k
        rw [hri] at hy; cases hy
        omega
    · by_cases e : i = 0
      · subst e
        refine ⟨x, hri, ?_⟩
        have := h5 rfl
        omega
      · exact h6 (by omega)
theorem Mx.all (hn : (r0.map (· / 2)).Nodup) (hsl : ∀ y ∈ r0, y / 2 < s0.seen.length) : ∀ (n : Nat) (i : Nat) (s : St) (out : List Nat) (lv : Nat), n + i = r0.length → Mx s0 s a r0 i out lv k →
    Mx s0 (maxS n i s out lv).1 a r0 r0.length (maxS n i s out lv).2.1 (maxS n i s out lv).2.2 k
  | 0, i, s, out, lv, e, h => by
    obtain rfl : i = r0.length := by omega
    exact h
  | n + 1, i, s, out, lv, e, h => by
    rw [maxS_go]
    exact Mx.all hn hsl n (i + 1) _ _ _ (by omega) (h.step hn hsl (by omega))
/-- what is learned -/
structure Lrn (s0 s : St) (out : List Nat) (lb K : Nat) : Prop where
  fr : Lf s0 s K
  av : Av s
  st : s.step < 1099511627776
  sn : ∀ v, s.sn v = false
  hd : ∃ x r, out = nt x :: r ∧ x ∈ s0.trail ∧ s0.lv x = s0.ends.length ∧ (r.map (· / 2)).Nodup ∧ (∀ y ∈ r, nt y ∈ s0.trail ∧ 1 ≤ s0.lv y ∧ s0.lv y ≤ lb) ∧ lb < s0.ends.length ∧ (r = [] → lb = 0) ∧ (r ≠ [] → s0.lv (r.getD 0 0) = lb)
  j : ∀ Y, Yc s0 Y → (∀ y ∈ out, Y (nt y)) → False
theorem Lz.start {out : List Nat} (h : Lz s0 s out k) : ∃ x r0, out = nt x :: r0 ∧ Mx s0 s (nt x) r0 0 out 0 k ∧ x ∈ s0.trail ∧ s0.lv x = s0.ends.length ∧ (r0.map (· / 2)).Nodup ∧ ∀ y ∈ r0, nt y ∈ s0.trail ∧ 1 ≤ s0.lv y ∧ s0.lv y < s0.ends.length := by
  obtain ⟨x, tl, t1, t2, t3, t4, t5, t6⟩ := h.hd
  exact ⟨x, tl, t1, ⟨h.fr, h.av, h.st, t6, tl, t1, List.Perm.refl _, fun _ _ => rfl, fun j y hj => by omega, fun _ => rfl, fun h => by omega⟩, t2, t3, t4, t5⟩
theorem Lz.lrn {U : Nat → Prop} (hT : Tr U s0) (hsh : Shp s0) (he : 1 ≤ s0.ends.length) {out : List Nat} (h : Lz s0 s out k) : Lrn s0 (maxS (out.length - 1) 0 s out 0).1 (maxS (out.length - 1) 0 s out 0).2.1 (maxS (out.length - 1) 0 s out 0).2.2 k := by
  obtain ⟨x, r0, h1, hm, h2, h3, h4, h5⟩ := h.start
  have hm2 := Mx.all h4 (fun y hy => by
    have := hT.ok _ (h5 y hy).1
    have h6 := (okL_nt this).2
    rw [nt_nt] at h6
    rw [hsh.se]; omega) (out.length - 1) 0 s out 0 (by rw [h1]; simp) hm
  obtain ⟨r, q1, q2, q3, q4, q5, q6⟩ := hm2.hd
  obtain ⟨lb, hlb⟩ : ∃ lb, lb = (maxS (out.length - 1) 0 s out 0).2.2 := ⟨_, rfl⟩
  rw [← hlb] at hm2 q4 q5 q6 ⊢
  have hmem : ∀ y, y ∈ r ↔ y ∈ r0 := fun y => q2.mem_iff
  refine ⟨hm2.fr, hm2.av, hm2.st, fun v => ?_, ⟨x, r, q1, h2, h3, (q2.map _).nodup_iff.2 h4, fun y hy => ?_, ?_, fun e => ?_, fun e => ?_⟩, fun Y hY hs => ?_⟩
  · cases hb : (maxS (out.length - 1) 0 s out 0).1.sn v
    · rfl
    · obtain ⟨y, hy, _⟩ := (hm2.sv v).1 hb
      simp at hy
  · obtain ⟨y1, y2, y3⟩ := h5 y ((hmem y).1 hy)
    refine ⟨y1, y2, ?_⟩
    obtain ⟨j, hj⟩ := List.mem_iff_getElem?.1 hy
    exact q4 j y (by have := (List.getElem?_eq_some_iff.1 hj).1; rw [q2.length_eq] at this; exact this) hj
  · cases hr : r0 with
    | nil => rw [hr] at q5; have := q5 rfl; omega
    | cons z zs =>
      obtain ⟨y, hy1, hy2⟩ := q6 (by rw [hr]; simp)
      have := (h5 y ((hmem y).1 (List.mem_of_getElem? hy1))).2.2
      omega
  · have : r0 = [] := by rw [e] at q2; exact q2.symm.eq_nil
    exact q5 (by rw [this]; rfl)
  · obtain ⟨y, hy1, hy2⟩ := q6 (by rw [← q2.length_eq]; exact List.length_pos_iff.2 e)
    rw [List.getD_eq_getElem?_getD, hy1]; exact hy2
  · refine h.j Y hY fun y hy => hs y ?_
    rw [h1] at hy
    rw [q1]
    rcases List.mem_cons.1 hy with k | k
    · rw [k]; exact List.mem_cons_self ..
    · exact List.mem_cons_of_mem _ ((hmem y).2 k)
end
theorem learn_ok {U : Nat → Prop} {D : List Nat → Prop} {s : St} {c : Nat} (h : Conf U D s c) (hs : ∀ v, s.sn v = false) (ha : Av s) (he : 1 ≤ s.ends.length) : ∃ K, K ≤ s.trail.length + 1 ∧ Lrn s (learnS s c).1 (learnS s c).2.1 (learnS s c).2.2 K := by
  obtain ⟨h1, h2, h3⟩ := h.start hs ha
  obtain ⟨K, hK, hz⟩ := walk_ok h.ui.tr h.ui.shp h.ui.lt he (s.trail.length + 1) s c 0 s.trail.length [0] 0 (by omega) (Nat.le_refl _) h1 h2 (.inr h3)
  exact ⟨K, by omega, hz.lrn h.ui.tr h.ui.shp he⟩
end Go.Proofs.Ytcebafeaikipmaa.S15

namespace Go.Proofs.Ytcebafeaikipmaa.S15

section
variable {U V : Nat → Prop} {D E : List Nat → Prop} {s : St} {P : Nat → Nat → Prop}
theorem Tr.mono (h : Tr U s) (hu : ∀ x, U x → V x) : Tr V s := by
  refine ⟨h.ok, h.nd, h.vl, h.dn, h.en, h.el, h.le, fun p x hx => ?_⟩
  have := h.re p x hx
  cases hr : s.reason.getD (x / 2) none with
  | none => rw [hr] at this; exact this.imp (fun k => ⟨k.1, hu _ k.2⟩) id
  | some c => rw [hr] at this; exact this
theorem UI.mono (h : UI U D s P) (hu : ∀ x, U x → V x) (hd : ∀ l, D l → E l) : UI V E s P :=
  ⟨h.shp, fun c hc => ⟨(h.lt c hc).1, (h.lt c hc).2.1, (h.lt c hc).2.2.1, hd _ (h.lt c hc).2.2.2⟩, h.tr.mono hu, h.wa, h.pr⟩
theorem undo_val {x : Nat} (hx : okL s.vars x) (hva : s.value.length = 2 * (s.vars + 1)) {y : Nat} (hy : okL s.vars y) : (undoS s y).val x = if x = y ∨ nt x = y then 0 else s.val x := by
  have h1 : y < s.value.length := by rw [hva]; exact hy.2
  have h2 : nt y < s.value.length := by rw [hva]; exact (okL_nt hy).2
  unfold undoS St.val
  simp only [List.getD_eq_getElem?_getD]
  by_cases e : x = nt y
  · subst e
    rw [List.getElem?_set_self (by simpa using h2), if_pos (.inr (nt_nt y))]; rfl
  · rw [List.getElem?_set_ne (fun e2 => e e2.symm)]
    by_cases e2 : x = y
    · subst e2; rw [List.getElem?_set_self h1, if_pos (.inl rfl)]; rfl
    · have e3 : nt x ≠ y := fun e3 => e (by rw [← e3, nt_nt])
      rw [List.getElem?_set_ne (fun e3 => e2 e3.symm), if_neg (by simp [e2, e3])]
theorem undos_val : ∀ (l : List Nat) (s : St) {x : Nat}, okL s.vars x → s.value.length = 2 * (s.vars + 1) → (∀ y ∈ l, okL s.vars y) → (l.foldl undoS s).val x = if x ∈ l ∨ nt x ∈ l then 0 else s.val x
  | [], s, x, _, _, _ => by simp
  | y :: l, s, x, hx, hva, hl => by
    rw [List.foldl_cons, undos_val l (undoS s y) (x := x) hx (by simpa [undoS] using hva) fun z hz => hl z (List.mem_cons_of_mem _ hz), undo_val hx hva (hl y (List.mem_cons_self ..))]
    by_cases h1 : x ∈ l ∨ nt x ∈ l
    · rw [if_pos h1, if_pos (h1.imp (List.mem_cons_of_mem _) (List.mem_cons_of_mem _))]
    · rw [if_neg h1]
      by_cases h2 : x = y ∨ nt x = y
      · rw [if_pos h2, if_pos (h2.imp (fun e => by rw [e]; exact List.mem_cons_self ..) (fun e => by rw [e]; exact List.mem_cons_self ..))]
      · rw [if_neg h2, if_neg]
        rintro (k | k)
        · rcases List.mem_cons.1 k with k | k
          · exact h2 (.inl k)
          · exact h1 (.inl k)
        · rcases List.mem_cons.1 k with k | k
          · exact h2 (.inr k)
          · exact h1 (.inr k)
theorem undos_reason : ∀ (l : List Nat) (s : St) (v : Nat), (∀ y ∈ l, y / 2 ≠ v) → (l.foldl undoS s).reason.getD v none = s.reason.getD v none
  | [], _, _, _ => rfl
  | y :: l, s, v, h => by
    rw [List.foldl_cons, undos_reason l _ v fun z hz => h z (List.mem_cons_of_mem _ hz)]
    unfold undoS
    simp only [List.getD_eq_getElem?_getD]
    rw [List.getElem?_set_ne (h y (List.mem_cons_self ..))]
/-- what going back leaves as it is -/
structure Bk (s s' : St) : Prop where
  vars : s'.vars = s.vars
  cls : s'.cls = s.cls
  clauses : s'.clauses = s.clauses
  learned : s'.learned = s.learned
  watch : s'.watch = s.watch
  level : s'.level = s.level
  act : s'.act = s.act
  step : s'.step = s.step
  proof : s'.proof = s.proof
  seen : s'.seen = s.seen
theorem Bk.refl (s : St) : Bk s s := ⟨rfl, rfl, rfl, rfl, rfl, rfl, rfl, rfl, rfl, rfl⟩
theorem bk_undos : ∀ (l : List Nat) (s : St), Bk s (l.foldl undoS s)
  | [], s => Bk.refl s
  | y :: l, s => by
    have h := bk_undos l (undoS s y)
    exact ⟨h.vars, h.cls, h.clauses, h.learned, h.watch, h.level, h.act, h.step, h.proof, h.seen⟩
theorem bk_back (s : St) (lv : Nat) : Bk s (backS s lv) := by
  unfold backS
  split
  · exact Bk.refl s
  · have h := bk_undos (s.trail.drop (s.ends.getD lv 0)) s
    exact ⟨h.vars, h.cls, h.clauses, h.learned, h.watch, h.level, h.act, h.step, h.proof, h.seen⟩
theorem backS_go {lv : Nat} (h : lv < s.ends.length) : backS s lv = { (s.trail.drop s.ends[lv]).foldl undoS s with trail := s.trail.take s.ends[lv], ends := s.ends.take lv, done := s.ends[lv] } := by
  unfold backS
  rw [if_neg (by omega)]
  have e : s.ends.getD lv 0 = s.ends[lv] := by rw [List.getD_eq_getElem?_getD, List.getElem?_eq_getElem h]; rfl
  rw [e]
theorem Tr.back (h : Tr U s) (hp : Shp s) {lv : Nat} (hl : lv < s.ends.length) : Tr U (backS s lv) := by
  have hb := bk_back s lv
  have hf := h.el _ (List.getElem_mem hl)
  have e0 := backS_go hl
  obtain ⟨f, hfe⟩ : ∃ f, f = s.ends[lv] := ⟨_, rfl⟩
  rw [← hfe] at hf e0
  have etr : (backS s lv).trail = s.trail.take f := by rw [e0]
  have een : (backS s lv).ends = s.ends.take lv := by rw [e0]
  have edn : (backS s lv).done = f := by rw [e0]
  have hlen : (s.trail.take f).length = f := by simp; omega
  have hlvl : ∀ p, p < f → lvl (s.ends.take lv) p = lvl s.ends p := fun p hpf => (lvl_take h.en hl (hfe ▸ hpf)).symm
  have hdrop : ∀ p x, p < f → s.trail[p]? = some x → ∀ y ∈ s.trail.drop f, y / 2 ≠ x / 2 := fun p x hpf hx y hy e => by
    obtain ⟨i, hi⟩ := List.mem_iff_getElem?.1 hy
    rw [List.getElem?_drop] at hi
    have := h.var_inj hi hx e
    omega
  refine ⟨?_, ?_, ?_, ?_, ?_, ?_, ?_, ?_⟩
  · rw [etr, hb.vars]; exact fun x hx => h.ok x (List.mem_of_mem_take hx)
  · rw [etr]; exact h.nd.sublist ((List.take_sublist _ _).map _)
  · intro x hx
    rw [hb.vars] at hx
    have hv : (backS s lv).val x = ((s.trail.drop f).foldl undoS s).val x := by rw [e0]; rfl
    rw [hv, undos_val _ s hx hp.va fun y hy => h.ok y (List.mem_of_mem_drop hy), etr, h.vl x hx]
    have hmem : ∀ z, z ∈ s.trail ↔ z ∈ s.trail.take f ∨ z ∈ s.trail.drop f := fun z => by
      conv => lhs; rw [← List.take_append_drop f s.trail]
      exact List.mem_append
    have hno : ∀ z, (z ∈ s.trail.drop f ∨ nt z ∈ s.trail.drop f) → z ∉ s.trail.take f := fun z hz hz2 => by
      obtain ⟨p, hp1, hp2⟩ := mem_take_iff.1 hz2
      rcases hz with k | k
      · exact hdrop p z hp1 hp2 z k rfl
      · exact hdrop p z hp1 hp2 (nt z) k (nt_half z)
    by_cases hd : x ∈ s.trail.drop f ∨ nt x ∈ s.trail.drop f
    · rw [if_pos hd, if_neg (hno x hd), if_neg (hno (nt x) (by rw [nt_nt]; exact hd.symm))]
    · rw [if_neg hd]
      have m1 : x ∈ s.trail ↔ x ∈ s.trail.take f := by rw [hmem]; exact ⟨fun k => k.elim id fun k => (hd (.inl k)).elim, .inl⟩
      have m2 : nt x ∈ s.trail ↔ nt x ∈ s.trail.take f := by rw [hmem]; exact ⟨fun k => k.elim id fun k => (hd (.inr k)).elim, .inl⟩
      simp only [m1, m2]
  · rw [edn, etr, hlen]; exact Nat.le_refl _
  · rw [een]; exact h.en.sublist (List.take_sublist _ _)
  · intro e he
    rw [een] at he
    rw [etr, edn, hlen]
    obtain ⟨i, hi, rfl⟩ := List.mem_iff_getElem.1 he
    rw [List.getElem_take]
    simp at hi
    have : s.ends[i] < s.ends[lv] := List.pairwise_iff_getElem.1 h.en i lv (by omega) hl (by omega)
    omega
  · intro p x hx
    rw [etr] at hx
    have hpf : p < f := by have := (List.getElem?_eq_some_iff.1 hx).1; omega
    rw [List.getElem?_take, if_pos hpf] at hx
    rw [een, hlvl p hpf, ← h.le p x hx]
    unfold St.lv
    rw [hb.level]
  · intro p x hx
    rw [etr] at hx
    have hpf : p < f := by have := (List.getElem?_eq_some_iff.1 hx).1; omega
    rw [List.getElem?_take, if_pos hpf] at hx
    have hr : (backS s lv).reason.getD (x / 2) none = s.reason.getD (x / 2) none := by
      have : (backS s lv).reason = ((s.trail.drop f).foldl undoS s).reason := by rw [e0]
      rw [this]
      exact undos_reason _ s _ (hdrop p x hpf hx)
    rw [hr]
    have h9 := h.re p x hx
    cases hc : s.reason.getD (x / 2) none with
    | none =>
      rw [hc] at h9
      unfold ReOk at h9 ⊢
      rw [een]
      rcases h9 with ⟨k1, k2⟩ | k
      · exact .inl ⟨by rw [hlvl p hpf]; exact k1, k2⟩
      · refine .inr ?_
        obtain ⟨i, hi, e⟩ := List.mem_iff_getElem.1 k
        refine mem_take_iff.2 ⟨i, ?_, by rw [List.getElem?_eq_getElem hi, e]⟩
        apply Nat.lt_of_not_le
        intro hle
        rcases Nat.lt_or_eq_of_le hle with hlt | heq
        · have := List.pairwise_iff_getElem.1 h.en lv i hl hi hlt
          omega
        · subst heq; omega
    | some c =>
      rw [hc] at h9
      unfold ReOk at h9 ⊢
      unfold St.cl
      rw [hb.cls, etr, List.take_take, Nat.min_eq_left (Nat.le_of_lt hpf)]
      exact h9
theorem lv_of_pos (h : Tr U s) {lv : Nat} (hl : lv < s.ends.length) {z : Nat} (hz : z ∈ s.trail) : z ∈ s.trail.take s.ends[lv] ↔ s.lv z ≤ lv := by
  obtain ⟨p, hp⟩ := List.mem_iff_getElem?.1 hz
  rw [h.le p z hp, lvl_lt h.en hl]
  constructor
  · intro k
    obtain ⟨q, hq, hq2⟩ := mem_take_iff.1 k
    have := h.var_inj hp hq2 rfl
    omega
  · intro k; exact mem_take_iff.2 ⟨p, k, hp⟩
theorem UI.back (h : UI U D s P) {lv : Nat} (hl : lv < s.ends.length) (hP : ∀ c a, P c a → lv < s.lv a) : UI U D (backS s lv) (fun _ _ => False) ∧ (backS s lv).done = (backS s lv).trail.length := by
  have hb := bk_back s lv
  have hT := h.tr.back h.shp hl
  have hf := h.tr.el _ (List.getElem_mem hl)
  have e0 := backS_go hl
  have etr : (backS s lv).trail = s.trail.take s.ends[lv] := by rw [e0]
  have edn : (backS s lv).done = s.ends[lv] := by rw [e0]
  have hcl : ∀ c, (backS s lv).cl c = s.cl c := fun c => by unfold St.cl; rw [hb.cls]
  have hlv : ∀ x, (backS s lv).lv x = s.lv x := fun x => by unfold St.lv; rw [hb.level]
  have hwa : ∀ y, (backS s lv).wa y = s.wa y := fun y => by unfold St.wa; rw [hb.watch]
  have hl0 : ∀ c, (backS s lv).l0 c = s.l0 c := fun c => by unfold St.l0; rw [hcl]
  have hl1 : ∀ c, (backS s lv).l1 c = s.l1 c := fun c => by unfold St.l1; rw [hcl]
  refine ⟨⟨(same_back s lv).shp h.shp, fun c hc => ?_, hT, ⟨fun y => ?_, fun y c hc => ?_, fun c hc hg => ?_⟩, fun c hc hg a b hab _ hn => ?_⟩, ?_⟩
  · rw [hcl, hb.vars]; exact h.lt c (hb.cls ▸ hc)
  · rw [hwa]; exact h.wa.nd y
  · rw [hwa] at hc
    rw [hl0, hl1, hb.cls]; exact h.wa.of y c hc
  · rw [hwa, hwa, hl0, hl1]
    exact h.wa.at_ c (hb.cls ▸ hc) (by rw [hcl] at hg; exact hg)
  · rw [etr, edn, List.take_take, Nat.min_self] at hn
    rw [hl0, hl1] at hab
    have hnm := List.mem_of_mem_take hn
    have hla : s.lv a ≤ lv := by
      have := (lv_of_pos h.tr hl hnm).1 hn
      rw [lv_nt] at this; exact this
    obtain ⟨k1, k2⟩ := h.pr c (hb.cls ▸ hc) (by rw [hcl] at hg; exact hg) a b hab (fun k => by have := hP c a k; omega) (by
      obtain ⟨q, hq, hq2⟩ := mem_take_iff.1 hn
      exact mem_take_iff.2 ⟨q, by omega, hq2⟩)
    rw [hlv, hlv, etr]
    exact ⟨(lv_of_pos h.tr hl k1).2 (by omega), k2⟩
  · rw [edn, etr, List.length_take]; omega
/-- a literal more -/
theorem UI.set (h : UI U D s P) {F : List Nat} {x : Nat} {b : Option Nat} (hx : okL s.vars x) (h0 : s.val x = 0) (hE : F.Pairwise (· < ·)) (hE2 : ∀ e ∈ F, e ≤ s.trail.length ∧ e ≤ s.done)
    (hE3 : ∀ p, p < s.trail.length → lvl F p = lvl s.ends p) (hE4 : ∀ p, p ∈ s.ends → p ∈ F) (hb : match b with | none => (F = [] ∧ U x) ∨ s.trail.length ∈ F | some c => c < s.cls.length ∧ (s.cl c).lits.getD 0 0 = x ∧ ∀ y ∈ (s.cl c).lits, y ≠ x → nt y ∈ s.trail) :
    UI U D (setS { s with ends := F } x b) P ∧ (∀ z, z ∈ s.trail ∨ nt z ∈ s.trail → (setS { s with ends := F } x b).lv z = s.lv z) ∧ (setS { s with ends := F } x b).lv x = F.length := by
  have hT := h.tr.set h.shp hx h0 hE hE2 hE3 hE4 hb
  obtain ⟨n1, n2⟩ := (h.tr.val0 hx).1 h0
  have hlv : ∀ z, z ∈ s.trail ∨ nt z ∈ s.trail → (setS { s with ends := F } x b).lv z = s.lv z := fun z hz => by
    unfold St.lv setS
    simp only [List.getD_eq_getElem?_getD]
    rw [List.getElem?_set_ne]
    intro e
    rcases half_eq e with e | e
    · subst e; exact hz.elim n1 n2
    · subst e; rw [nt_nt] at n2; exact hz.elim n2 n1
  refine ⟨⟨?_, h.lt, hT, ⟨h.wa.nd, h.wa.of, h.wa.at_⟩, fun c hc hg a b' hab hP hn => ?_⟩, hlv, ?_⟩
  · have : SameL s (setS { s with ends := F } x b) := by unfold SameL setS; simp
    exact this.shp h.shp
  · have hn' : nt a ∈ s.trail.take s.done := by
      have e : (setS { s with ends := F } x b).trail.take (setS { s with ends := F } x b).done = s.trail.take s.done := by
        show (s.trail ++ [x]).take s.done = _
        rw [List.take_append_of_le_length h.tr.dn]
      rw [e] at hn; exact hn
    obtain ⟨k1, k2⟩ := h.pr c hc hg a b' hab hP hn'
    refine ⟨List.mem_append_left _ k1, ?_⟩
    rw [hlv b' (.inl k1), hlv a (.inr (List.mem_of_mem_take hn'))]; exact k2
  · have hlx : x / 2 < s.level.length := by rw [h.shp.le]; have := hx.2; omega
    unfold St.lv setS
    simp only [List.getD_eq_getElem?_getD]
    rw [List.getElem?_set_self hlx]; rfl
end
end Go.Proofs.Ytcebafeaikipmaa.S15

namespace Go.Proofs.Ytcebafeaikipmaa.S15

section
variable {U V : Nat → Prop} {D E : List Nat → Prop} {s t : St} {P : Nat → Nat → Prop}
theorem UI.of_eq (h : UI U D s P) (h1 : t.vars = s.vars) (h2 : t.cls = s.cls) (h3 : t.watch = s.watch) (h4 : t.value = s.value) (h5 : t.level = s.level) (h6 : t.reason = s.reason) (h7 : t.trail = s.trail) (h8 : t.ends = s.ends) (h9 : t.done = s.done)
    (l1 : t.phase.length = s.phase.length) (l2 : t.act.length = s.act.length) (l3 : t.seen.length = s.seen.length) : UI U D t P := by
  have hcl : ∀ c, t.cl c = s.cl c := fun c => by unfold St.cl; rw [h2]
  have hlv : ∀ x, t.lv x = s.lv x := fun x => by unfold St.lv; rw [h5]
  have hwa : ∀ y, t.wa y = s.wa y := fun y => by unfold St.wa; rw [h3]
  have hl0 : ∀ c, t.l0 c = s.l0 c := fun c => by unfold St.l0; rw [hcl]
  have hl1 : ∀ c, t.l1 c = s.l1 c := fun c => by unfold St.l1; rw [hcl]
  refine ⟨?_, fun c hc => by rw [hcl, h1]; exact h.lt c (h2 ▸ hc), ?_, ⟨fun y => by rw [hwa]; exact h.wa.nd y, fun y c hc => by rw [hwa] at hc; rw [hl0, hl1, h2]; exact h.wa.of y c hc, fun c hc hg => by rw [hwa, hwa, hl0, hl1]; exact h.wa.at_ c (h2 ▸ hc) (by rw [hcl] at hg; exact hg)⟩, fun c hc hg a b hab hP hn => ?_⟩
  · have : SameL s t := ⟨h1, by rw [h4], by rw [h3], by rw [h5], by rw [h6], l1, l2, l3⟩
    exact this.shp h.shp
  · exact h.tr.cls h1 h7 h4 h5 h6 h8 h9 (by rw [h2]) fun p z c _ _ => ⟨by rw [hcl], fun y hy => by rw [hcl] at hy; exact hy⟩
  · rw [hl0, hl1] at hab
    rw [hlv, hlv, h7]
    exact h.pr c (h2 ▸ hc) (by rw [hcl] at hg; exact hg) a b hab hP (by rw [h7, h9] at hn; exact hn)
/-- a clause more -/
def attS (s : St) (l : List Nat) (u : Int) (cl ln : List Nat) : St := attachS { newC s l u with clauses := cl, learned := ln } s.cls.length
theorem attS_eq (s : St) (l : List Nat) (u : Int) (cl ln : List Nat) : attS s l u cl ln = pushW (pushW { newC s l u with clauses := cl, learned := ln } (l.getD 0 0) s.cls.length) (l.getD 1 0) s.cls.length := by
  have e : (({ newC s l u with clauses := cl, learned := ln } : St).cl s.cls.length) = ⟨l, u, false⟩ := cl_newC (s := s) l u
  unfold attS attachS
  rw [e]
structure Att (s t : St) (l : List Nat) (u : Int) : Prop where
  vars : t.vars = s.vars
  value : t.value = s.value
  level : t.level = s.level
  reason : t.reason = s.reason
  phase : t.phase = s.phase
  act : t.act = s.act
  step : t.step = s.step
  trail : t.trail = s.trail
  ends : t.ends = s.ends
  done : t.done = s.done
  proof : t.proof = s.proof
  seen : t.seen = s.seen
  len : t.cls.length = s.cls.length + 1
  new : t.cl s.cls.length = ⟨l, u, false⟩
  old : ∀ c, c < s.cls.length → t.cl c = s.cl c
theorem att_att (s : St) (l : List Nat) (u : Int) (cl ln : List Nat) : Att s (attS s l u cl ln) l u := by
  rw [attS_eq]
  refine ⟨rfl, rfl, rfl, rfl, rfl, rfl, rfl, rfl, rfl, rfl, rfl, rfl, by simp [pushW, newC], ?_, fun c hc => ?_⟩
  · exact cl_newC (s := s) l u
  · exact cl_newC_lt (s := s) l u hc
theorem UI.addC (h : UI U D s P) {l : List Nat} (u : Int) (cl ln : List Nat) (h2 : 2 ≤ l.length) (hn : l.Nodup) (ho : ∀ x ∈ l, okL s.vars x) (hd : D l) : UI U D (attS s l u cl ln) fun c a => P c a ∨ c = s.cls.length := by
  have ha := att_att s l u cl ln
  obtain ⟨t, ht⟩ : ∃ t, t = attS s l u cl ln := ⟨_, rfl⟩
  obtain ⟨x0, hx0⟩ : ∃ x0, x0 = l.getD 0 0 := ⟨_, rfl⟩
  obtain ⟨x1, hx1⟩ : ∃ x1, x1 = l.getD 1 0 := ⟨_, rfl⟩
  have hne : x0 ≠ x1 := fun e => by
    have := nodup_getD hn (i := 0) (j := 1) (by omega) (by omega) (by rw [← hx0, ← hx1]; exact e)
    omega
  have ho0 : okL s.vars x0 := ho _ (by rw [hx0]; exact getD_mem (by omega))
  have ho1 : okL s.vars x1 := ho _ (by rw [hx1]; exact getD_mem (by omega))
  have hw0 : x0 < s.watch.length := by rw [h.shp.wt]; exact ho0.2
  have hw1 : x1 < s.watch.length := by rw [h.shp.wt]; exact ho1.2
  have hwa : ∀ y, t.wa y = if y = x1 then s.wa x1 ++ [s.cls.length] else if y = x0 then s.wa x0 ++ [s.cls.length] else s.wa y := fun y => by
    rw [ht, attS_eq, ← hx0, ← hx1, wa_push (by simpa [pushW, newC] using hw1)]
    by_cases e : y = x1
    · rw [if_pos e, if_pos e, wa_push (by exact hw0), if_neg (fun e => hne e.symm)]; rfl
    · rw [if_neg e, if_neg e, wa_push (by exact hw0)]
      by_cases e2 : y = x0
      · rw [if_pos e2, if_pos e2]; rfl
      · rw [if_neg e2, if_neg e2]; rfl
  rw [← ht] at ha ⊢
  have hno : ∀ y, s.cls.length ∉ s.wa y := fun y hy => by have := (h.wa.of y _ hy).1; omega
  have t0 : t.l0 s.cls.length = x0 := by unfold St.l0; rw [ha.new, hx0]
  have t1 : t.l1 s.cls.length = x1 := by unfold St.l1; rw [ha.new, hx1]
  have o0 : ∀ c, c < s.cls.length → t.l0 c = s.l0 c := fun c hc => by unfold St.l0; rw [ha.old c hc]
  have o1 : ∀ c, c < s.cls.length → t.l1 c = s.l1 c := fun c hc => by unfold St.l1; rw [ha.old c hc]
  have hsub : ∀ y c, c ∈ s.wa y → c ∈ t.wa y := fun y c hc => by
    rw [hwa]
    split
    · rename_i e; subst e; exact List.mem_append_left _ hc
    · split
      · rename_i e; subst e; exact List.mem_append_left _ hc
      · exact hc
  have hlv : ∀ x, t.lv x = s.lv x := fun x => by unfold St.lv; rw [ha.level]
  refine ⟨?_, fun c hc => ?_, ?_, ⟨fun y => ?_, fun y c hc => ?_, fun c hc hg => ?_⟩, fun c hc hg a b hab hP hnn => ?_⟩
  · have : SameL s t := ⟨ha.vars, by rw [ha.value], by rw [ht, attS_eq]; simp [pushW, newC], by rw [ha.level], by rw [ha.reason], by rw [ha.phase], by rw [ha.act], by rw [ha.seen]⟩
    exact this.shp h.shp
  · rcases Nat.lt_or_ge c s.cls.length with k | k
    · rw [ha.old c k, ha.vars]; exact h.lt c k
    · have := ha.len
      obtain rfl : c = s.cls.length := by omega
      rw [ha.new, ha.vars]
      exact ⟨h2, hn, ho, hd⟩
  · refine ⟨by rw [ha.vars, ha.trail]; exact h.tr.ok, by rw [ha.trail]; exact h.tr.nd, fun x hx => ?_, by rw [ha.done, ha.trail]; exact h.tr.dn, by rw [ha.ends]; exact h.tr.en, by rw [ha.ends, ha.trail, ha.done]; exact h.tr.el, fun p x hx => ?_, fun p x hx => ?_⟩
    · have := h.tr.vl x (ha.vars ▸ hx)
      unfold St.val at this ⊢
      rw [ha.value, ha.trail]; exact this
    · rw [ha.trail] at hx
      rw [hlv, ha.ends]; exact h.tr.le p x hx
    · rw [ha.trail] at hx
      have h9 := h.tr.re p x hx
      rw [ha.reason]
      cases hr : s.reason.getD (x / 2) none with
      | none => rw [hr] at h9; unfold ReOk at h9 ⊢; rw [ha.ends]; exact h9
      | some c =>
        rw [hr] at h9
        exact ⟨by rw [ha.len]; have := h9.1; omega, by rw [ha.old c h9.1]; exact h9.2.1, by rw [ha.old c h9.1, ha.trail]; exact h9.2.2⟩
  · rw [hwa]
    have key : ∀ z, (s.wa z ++ [s.cls.length]).Nodup := fun z => by
      rw [List.nodup_append]
      exact ⟨h.wa.nd z, by simp, fun a ha b hb e => hno z (by simp at hb; rw [← hb, ← e]; exact ha)⟩
    split
    · exact key _
    · split
      · exact key _
      · exact h.wa.nd y
  · have hold : ∀ z, c ∈ s.wa z → y = z → c < t.cls.length ∧ (y = t.l0 c ∨ y = t.l1 c) := fun z hz e => by
      obtain ⟨k1, k2⟩ := h.wa.of z c hz
      rw [o0 c k1, o1 c k1, e, ha.len]
      exact ⟨by omega, k2⟩
    rw [hwa] at hc
    split at hc
    · rename_i e
      rcases List.mem_append.1 hc with k | k
      · exact hold x1 k e
      · rw [List.mem_singleton.1 k, t0, t1, ha.len]; exact ⟨by omega, .inr e⟩
    · split at hc
      · rename_i e
        rcases List.mem_append.1 hc with k | k
        · exact hold x0 k e
        · rw [List.mem_singleton.1 k, t0, t1, ha.len]; exact ⟨by omega, .inl e⟩
      · exact hold y hc rfl
  · rcases Nat.lt_or_ge c s.cls.length with k | k
    · rw [o0 c k, o1 c k]
      have := h.wa.at_ c k (by rw [ha.old c k] at hg; exact hg)
      exact ⟨hsub _ _ this.1, hsub _ _ this.2⟩
    · have := ha.len
      obtain rfl : c = s.cls.length := by omega
      rw [t0, t1, hwa, hwa, if_neg hne, if_pos rfl, if_pos rfl]
      exact ⟨by simp, by simp⟩
  · have k : c < s.cls.length := by
      have := ha.len
      rcases Nat.lt_or_ge c s.cls.length with k | k
      · exact k
      · exact (hP (.inr (by omega))).elim
    rw [o0 c k, o1 c k] at hab
    rw [hlv, hlv, ha.trail]
    exact h.pr c k (by rw [ha.old c k] at hg; exact hg) a b hab (fun q => hP (.inl q)) (by rw [ha.trail, ha.done] at hnn; exact hnn)
/-- what is learned is kept, behind going back -/
theorem keepS_one {l : List Nat} (h : l.length = 1) : keepS s l = setS { s with proof := s.proof ++ [l.map numI] } (l.getD 0 0) none := by unfold keepS; rw [if_pos h]
theorem keepS_more {l : List Nat} (h : l.length ≠ 1) : keepS s l = setS (attS { s with proof := s.proof ++ [l.map numI] } l 0 s.clauses (s.learned ++ [s.cls.length])) (l.getD 0 0) (some s.cls.length) := by unfold keepS attS; rw [if_neg h]; rfl
theorem UI.keep (h : UI U D s fun _ _ => False) {x : Nat} {r : List Nat} (hx : okL s.vars x) (h0 : s.val x = 0) (hn : (r.map (· / 2)).Nodup) (hr : ∀ y ∈ r, nt y ∈ s.trail ∧ s.lv y ≤ s.ends.length)
    (h1 : r = [] → s.ends = [] ∧ U x) (h2 : r ≠ [] → s.lv (r.getD 0 0) = s.ends.length ∧ D (x :: r)) : UI U D (keepS s (x :: r)) fun _ _ => False := by
  have h' : UI U D { s with proof := s.proof ++ [(x :: r).map numI] } fun _ _ => False := h.of_eq rfl rfl rfl rfl rfl rfl rfl rfl rfl rfl rfl rfl
  have hel : ∀ e ∈ s.ends, e ≤ s.trail.length ∧ e ≤ s.done := fun e he => ⟨Nat.le_of_lt (h.tr.el e he).1, (h.tr.el e he).2⟩
  obtain ⟨n1, n2⟩ := (h.tr.val0 hx).1 h0
  by_cases e : r = []
  · obtain ⟨q1, q2⟩ := h1 e
    subst e
    rw [keepS_one rfl]
    exact (h'.set (F := s.ends) (x := x) (b := none) hx h0 h.tr.en hel (fun _ _ => rfl) (fun _ k => k) (.inl ⟨q1, q2⟩)).1
  · obtain ⟨q1, q2⟩ := h2 e
    have hlr : 1 ≤ r.length := List.length_pos_iff.2 e
    rw [keepS_more (by simp; omega)]
    have hro : ∀ y ∈ r, okL s.vars y := fun y hy => by
      have := okL_nt (h.tr.ok _ (hr y hy).1)
      rw [nt_nt] at this; exact this
    have hnd : (x :: r).Nodup := by
      rw [List.nodup_cons]
      refine ⟨fun hm => n2 (hr x hm).1, ?_⟩
      exact List.Pairwise.of_map (S := (· ≠ ·)) (· / 2) (fun a b hab e => hab (by rw [e])) hn
    have hA := h'.addC (l := x :: r) 0 s.clauses (s.learned ++ [s.cls.length]) (by simp; omega) hnd (fun y hy => by
      rcases List.mem_cons.1 hy with k | k
      · rw [k]; exact hx
      · exact hro y k) q2
    have ha := att_att { s with proof := s.proof ++ [(x :: r).map numI] } (x :: r) 0 s.clauses (s.learned ++ [s.cls.length])
    obtain ⟨t, ht⟩ : ∃ t, t = attS { s with proof := s.proof ++ [(x :: r).map numI] } (x :: r) 0 s.clauses (s.learned ++ [s.cls.length]) := ⟨_, rfl⟩
    rw [← ht] at hA ha ⊢
    have e0 : ({ s with proof := s.proof ++ [(x :: r).map numI] } : St).cls = s.cls := rfl
    rw [e0] at hA
    have hnew : t.cl s.cls.length = ⟨x :: r, 0, false⟩ := ha.new
    have hvx : t.val x = 0 := by
      unfold St.val
      rw [ha.value]; exact h0
    have hlv : ∀ z, t.lv z = s.lv z := fun z => by unfold St.lv; rw [ha.level]
    have htr : t.trail = s.trail := ha.trail
    have hen : t.ends = s.ends := ha.ends
    have hgd : ((x :: r).getD 0 0) = x := rfl
    rw [hgd]
    obtain ⟨k1, k2, k3⟩ := hA.set (F := t.ends) (x := x) (b := some s.cls.length) (by rw [ha.vars]; exact hx) hvx hA.tr.en (fun e he => ⟨Nat.le_of_lt (hA.tr.el e he).1, (hA.tr.el e he).2⟩) (fun _ _ => rfl) (fun _ k => k)
      ⟨by rw [ha.len, e0]; omega, by rw [hnew]; rfl, fun y hy hne => by
        rw [hnew] at hy
        rw [htr]
        rcases List.mem_cons.1 hy with k | k
        · exact (hne k).elim
        · exact (hr y k).1⟩
    refine ⟨k1.shp, k1.lt, k1.tr, k1.wa, fun c hc hg a b hab _ hn => ?_⟩
    by_cases ec : c = s.cls.length
    · subst ec
      have hl0 : (setS { t with ends := t.ends } x (some s.cls.length)).l0 s.cls.length = x := by
        show (t.cl s.cls.length).lits.getD 0 0 = x
        rw [hnew]; rfl
      have hl1 : (setS { t with ends := t.ends } x (some s.cls.length)).l1 s.cls.length = r.getD 0 0 := by
        show (t.cl s.cls.length).lits.getD 1 0 = _
        rw [hnew]; rfl
      rw [hl0, hl1] at hab
      have hr0 : r.getD 0 0 ∈ r := getD_mem (by omega)
      rcases hab with ⟨rfl, rfl⟩ | ⟨rfl, rfl⟩
      · have hm : nt a ∈ (t.trail ++ [a]) := List.mem_of_mem_take hn
        rw [htr] at hm
        rcases List.mem_append.1 hm with k | k
        · exact (n2 k).elim
        · exact (nt_neq a (by simpa using k)).elim
      · refine ⟨by show b ∈ t.trail ++ [b]; simp, ?_⟩
        rw [k3, k2 _ (.inr (by rw [htr]; exact (hr _ hr0).1)), hlv, q1, hen]; exact Nat.le_refl _
    · exact k1.pr c hc hg a b hab (by simp [ec]) hn
end
end Go.Proofs.Ytcebafeaikipmaa.S15

namespace Go.Proofs.Ytcebafeaikipmaa.S15

section
variable {U V : Nat → Prop} {D E : List Nat → Prop} {s t : St} {P : Nat → Nat → Prop}
theorem bestS_spec : ∀ (k v b : Nat), 1 ≤ v → (bestS s k v b = b ∨ (v ≤ bestS s k v b ∧ bestS s k v b < v + k ∧ s.val (2 * bestS s k v b) = 0)) ∧ (bestS s k v b = 0 → b = 0 ∧ ∀ u, v ≤ u → u < v + k → s.val (2 * u) ≠ 0)
  | 0, v, b, _ => ⟨.inl rfl, fun h => ⟨h, fun u h1 h2 => by omega⟩⟩
  | k + 1, v, b, hv => by
    rw [bestS]
    by_cases hc : s.val (2 * v) = 0 ∧ (b = 0 ∨ s.act.getD b 0 < s.act.getD v 0)
    · rw [if_pos hc]
      obtain ⟨h1, h2⟩ := bestS_spec k (v + 1) v (by omega)
      refine ⟨?_, fun h => ?_⟩
      · rcases h1 with e | ⟨q1, q2, q3⟩
        · exact .inr ⟨by omega, by omega, by rw [e]; exact hc.1⟩
        · exact .inr ⟨by omega, by omega, q3⟩
      · have := (h2 h).1; omega
    · rw [if_neg hc]
      obtain ⟨h1, h2⟩ := bestS_spec k (v + 1) b (by omega)
      refine ⟨?_, fun h => ?_⟩
      · rcases h1 with e | ⟨q1, q2, q3⟩
        · exact .inl e
        · exact .inr ⟨by omega, by omega, q3⟩
      · obtain ⟨q1, q2⟩ := h2 h
        refine ⟨q1, fun u hu1 hu2 => ?_⟩
        by_cases e : u = v
        · subst e; intro e2; exact hc ⟨e2, .inl q1⟩
        · exact q2 u (by omega) (by omega)
/-- what deciding leaves as it is -/
structure Dc (s t : St) : Prop where
  vars : t.vars = s.vars
  cls : t.cls = s.cls
  clauses : t.clauses = s.clauses
  learned : t.learned = s.learned
  act : t.act = s.act
  step : t.step = s.step
  proof : t.proof = s.proof
  seen : t.seen = s.seen
  done : t.done = s.done
  ends : t.ends = s.ends ++ [s.trail.length]
  trail : ∃ x, t.trail = s.trail ++ [x] ∧ okL s.vars x ∧ s.val x = 0
theorem decide_none (h : decideS s = none) (u : Nat) (h1 : 1 ≤ u) (h2 : u ≤ s.vars) : s.val (2 * u) ≠ 0 := by
  unfold decideS at h
  simp only at h
  split at h
  · rename_i e
    exact ((bestS_spec s.vars 1 0 (Nat.le_refl _)).2 e).2 u h1 (by omega)
  · cases h
theorem decide_some (hT : Tr U s) (h : decideS s = some t) : ∃ x, okL s.vars x ∧ s.val x = 0 ∧ t = setS { s with ends := s.ends ++ [s.trail.length] } x none := by
  unfold decideS at h
  simp only at h
  split at h
  · cases h
  · rename_i e
    obtain ⟨h1, h2⟩ := bestS_spec (s := s) s.vars 1 0 (Nat.le_refl _)
    rcases h1 with k | ⟨q1, q2, q3⟩
    · exact (e k).elim
    · obtain ⟨b, hb⟩ : ∃ b, b = bestS s s.vars 1 0 := ⟨_, rfl⟩
      rw [← hb] at h q1 q2 q3
      have ho : okL s.vars (2 * b) := ⟨by omega, by omega⟩
      have ho2 : okL s.vars (2 * b + 1) := ⟨by omega, by omega⟩
      have hn : nt (2 * b) = 2 * b + 1 := by unfold nt; rw [if_pos (by omega)]
      obtain ⟨n1, n2⟩ := (hT.val0 ho).1 q3
      injection h with h
      by_cases hp : s.phase.getD b false = true
      · rw [if_pos hp] at h
        exact ⟨_, ho, q3, h.symm⟩
      · rw [if_neg hp] at h
        refine ⟨_, ho2, (hT.val0 ho2).2 ⟨by rw [← hn]; exact n2, ?_⟩, h.symm⟩
        rw [← hn, nt_nt]; exact n1
theorem UI.decide (h : UI U D s fun _ _ => False) (hd : s.done = s.trail.length) (ht : decideS s = some t) : UI U D t (fun _ _ => False) ∧ Dc s t := by
  obtain ⟨x, hx, h0, rfl⟩ := decide_some h.tr ht
  have hel : ∀ e ∈ s.ends, e < s.trail.length ∧ e ≤ s.done := h.tr.el
  obtain ⟨k1, k2, k3⟩ := h.set (F := s.ends ++ [s.trail.length]) (x := x) (b := none) hx h0 (by
      rw [List.pairwise_append]
      exact ⟨h.tr.en, by simp, fun a ha b hb => by simp at hb; rw [hb]; exact (hel a ha).1⟩) (fun e he => by
      rcases List.mem_append.1 he with k | k
      · exact ⟨Nat.le_of_lt (hel e k).1, (hel e k).2⟩
      · rw [List.mem_singleton.1 k, hd]; exact ⟨Nat.le_refl _, Nat.le_refl _⟩) (fun p hp => by
      unfold lvl
      rw [List.filter_append]
      have : [s.trail.length].filter (fun e => Decidable.decide (e ≤ p)) = [] := by simp; omega
      rw [this, List.append_nil]) (fun p hp => List.mem_append_left _ hp) (.inr (by simp))
  exact ⟨k1, rfl, rfl, rfl, rfl, rfl, rfl, rfl, rfl, rfl, rfl, x, rfl, hx, h0⟩
/-- forgetting: what of l is left -/
structure Fg (s t : St) (l : List Nat) : Prop where
  vars : t.vars = s.vars
  clauses : t.clauses = s.clauses
  watch : t.watch = s.watch
  value : t.value = s.value
  level : t.level = s.level
  reason : t.reason = s.reason
  phase : t.phase = s.phase
  act : t.act = s.act
  step : t.step = s.step
  trail : t.trail = s.trail
  ends : t.ends = s.ends
  done : t.done = s.done
  proof : t.proof = s.proof
  seen : t.seen = s.seen
  len : t.cls.length = s.cls.length
  lits : ∀ c, (t.cl c).lits = (s.cl c).lits
  gone : ∀ c, (t.cl c).gone = false → (s.cl c).gone = false
  used : ∀ c, 0 ≤ (s.cl c).used → 0 ≤ (t.cl c).used ∧ (t.cl c).used ≤ (s.cl c).used
  old : ∀ c, c ∉ l → t.cl c = s.cl c
theorem Fg.refl (s : St) (l : List Nat) : Fg s s l := ⟨rfl, rfl, rfl, rfl, rfl, rfl, rfl, rfl, rfl, rfl, rfl, rfl, rfl, rfl, rfl, fun _ => rfl, fun _ h => h, fun _ h => ⟨h, Int.le_refl _⟩, fun _ _ => rfl⟩
theorem Fg.trans {a b c : St} {l m : List Nat} (h : Fg a b l) (k : Fg b c m) : Fg a c (l ++ m) :=
  ⟨k.vars.trans h.vars, k.clauses.trans h.clauses, k.watch.trans h.watch, k.value.trans h.value, k.level.trans h.level, k.reason.trans h.reason, k.phase.trans h.phase, k.act.trans h.act, k.step.trans h.step, k.trail.trans h.trail, k.ends.trans h.ends, k.done.trans h.done, k.proof.trans h.proof, k.seen.trans h.seen, k.len.trans h.len,
   fun d => (k.lits d).trans (h.lits d), fun d hd => h.gone d (k.gone d hd), fun d hd => by have h1 := h.used d hd; have h2 := k.used d h1.1; exact ⟨h2.1, Int.le_trans h2.2 h1.2⟩, fun d hd => by rw [List.mem_append] at hd; rw [k.old d fun q => hd (.inr q), h.old d fun q => hd (.inl q)]⟩
def setC (s : St) (c : Nat) (x : Cl) : St := { s with cls := s.cls.set c x }
theorem cl_setC (s : St) (c d : Nat) (x : Cl) : (setC s c x).cl d = if d = c ∧ c < s.cls.length then x else s.cl d := by
  unfold setC St.cl
  simp only [List.getD_eq_getElem?_getD]
  by_cases e : d = c
  · subst e
    by_cases h : d < s.cls.length
    · rw [List.getElem?_set_self h, if_pos ⟨rfl, h⟩]; rfl
    · rw [if_neg (fun k => h k.2), List.getElem?_eq_none (by simp; omega), List.getElem?_eq_none (by omega)]
  · rw [List.getElem?_set_ne (fun e2 => e e2.symm), if_neg (fun k => e k.1)]
theorem fg_gone (s : St) (c : Nat) : Fg s (setC s c { s.cl c with gone := true }) [c] := by
  have h := fun d => cl_setC s c d { s.cl c with gone := true }
  refine ⟨rfl, rfl, rfl, rfl, rfl, rfl, rfl, rfl, rfl, rfl, rfl, rfl, rfl, rfl, by simp [setC], fun d => ?_, fun d hd => ?_, fun d hd => ?_, fun d hd => ?_⟩
  · rw [h d]; split
    · rename_i e; rw [e.1]
    · rfl
  · rw [h d] at hd; split at hd
    · cases hd
    · exact hd
  · rw [h d]; split
    · rename_i e; rw [e.1] at hd ⊢; exact ⟨hd, Int.le_refl _⟩
    · exact ⟨hd, Int.le_refl _⟩
  · rw [h d, if_neg fun e => hd (by rw [e.1]; simp)]
theorem fg_half (s : St) (c : Nat) : Fg s (setC s c { s.cl c with used := (s.cl c).used / 2 }) [c] := by
  have h := fun d => cl_setC s c d { s.cl c with used := (s.cl c).used / 2 }
  refine ⟨rfl, rfl, rfl, rfl, rfl, rfl, rfl, rfl, rfl, rfl, rfl, rfl, rfl, rfl, by simp [setC], fun d => ?_, fun d hd => ?_, fun d hd => ?_, fun d hd => ?_⟩
  · rw [h d]; split
    · rename_i e; rw [e.1]
    · rfl
  · rw [h d] at hd; split at hd
    · rename_i e; rw [e.1]; exact hd
    · exact hd
  · rw [h d]; split
    · rename_i e; rw [e.1] at hd ⊢
      show 0 ≤ (s.cl c).used / 2 ∧ (s.cl c).used / 2 ≤ (s.cl c).used
      omega
    · exact ⟨hd, Int.le_refl _⟩
  · rw [h d, if_neg fun e => hd (by rw [e.1]; simp)]
def forgT (half i c : Nat) (s : St) : Bool := decide (i < half ∧ 2 < (s.cl c).lits.length ∧ s.reason.getD ((s.cl c).lits.getD 0 0 / 2) none ≠ some c)
theorem forgS_cons (half c : Nat) (r : List Nat) (i : Nat) (s : St) (left : List Nat) : forgS half (c :: r) i s left =
    if forgT half i c s then forgS half r (i + 1) (setC s c { s.cl c with gone := true }) left else forgS half r (i + 1) (setC s c { s.cl c with used := (s.cl c).used / 2 }) (left ++ [c]) := by
  rw [forgS]
  unfold forgT
  by_cases h : i < half ∧ 2 < (s.cl c).lits.length ∧ s.reason.getD ((s.cl c).lits.getD 0 0 / 2) none ≠ some c
  · rw [if_pos h, if_pos (decide_eq_true h)]; rfl
  · rw [if_neg h, if_neg (by simpa using h)]; rfl
theorem forgS_ok (half : Nat) : ∀ (l : List Nat) (i : Nat) (s : St) (left : List Nat), Fg s (forgS half l i s left).1 l ∧ (forgS half l i s left).1.learned = s.learned ∧ (∀ c ∈ (forgS half l i s left).2, c ∈ left ∨ c ∈ l) ∧ (forgS half l i s left).2.length ≤ left.length + l.length
  | [], i, s, left => ⟨Fg.refl s [], rfl, fun c hc => .inl hc, by simp [forgS]⟩
  | c :: r, i, s, left => by
    rw [forgS_cons]
    split
    · obtain ⟨h1, h2, h3, h4⟩ := forgS_ok half r (i + 1) (setC s c { s.cl c with gone := true }) left
      exact ⟨(fg_gone s c).trans h1, h2, fun d hd => (h3 d hd).imp id (List.mem_cons_of_mem _), Nat.le_trans h4 (by simp)⟩
    · obtain ⟨h1, h2, h3, h4⟩ := forgS_ok half r (i + 1) (setC s c { s.cl c with used := (s.cl c).used / 2 }) (left ++ [c])
      refine ⟨(fg_half s c).trans h1, h2, fun d hd => ?_, by simp at h4 ⊢; omega⟩
      rcases h3 d hd with k | k
      · rcases List.mem_append.1 k with k | k
        · exact .inl k
        · rw [List.mem_singleton.1 k]; exact .inr (List.mem_cons_self ..)
      · exact .inr (List.mem_cons_of_mem _ k)
theorem forget_ok (s : St) (l : List Nat) : Fg s (forgetS s l) l ∧ (∀ c ∈ (forgetS s l).learned, c ∈ l) ∧ (forgetS s l).learned.length ≤ l.length := by
  obtain ⟨h1, h2, h3, h4⟩ := forgS_ok (l.length / 2) l 0 s []
  unfold forgetS
  refine ⟨⟨h1.vars, h1.clauses, h1.watch, h1.value, h1.level, h1.reason, h1.phase, h1.act, h1.step, h1.trail, h1.ends, h1.done, h1.proof, h1.seen, h1.len, h1.lits, h1.gone, h1.used, h1.old⟩, fun c hc => ?_, ?_⟩
  · rcases h3 c hc with k | k
    · cases k
    · exact k
  · simpa using h4
theorem UI.forget (h : UI U D s P) {l : List Nat} (hf : Fg s t l) : UI U D t P := by
  have hlv : ∀ x, t.lv x = s.lv x := fun x => by unfold St.lv; rw [hf.level]
  have hwa : ∀ y, t.wa y = s.wa y := fun y => by unfold St.wa; rw [hf.watch]
  have hl0 : ∀ c, t.l0 c = s.l0 c := fun c => by unfold St.l0; rw [hf.lits]
  have hl1 : ∀ c, t.l1 c = s.l1 c := fun c => by unfold St.l1; rw [hf.lits]
  refine ⟨?_, fun c hc => by rw [hf.lits, hf.vars]; exact h.lt c (hf.len ▸ hc), ?_, ⟨fun y => by rw [hwa]; exact h.wa.nd y, fun y c hc => by rw [hwa] at hc; rw [hl0, hl1, hf.len]; exact h.wa.of y c hc, fun c hc hg => by rw [hwa, hwa, hl0, hl1]; exact h.wa.at_ c (hf.len ▸ hc) (hf.gone c hg)⟩, fun c hc hg a b hab hP hn => ?_⟩
  · have : SameL s t := ⟨hf.vars, by rw [hf.value], by rw [hf.watch], by rw [hf.level], by rw [hf.reason], by rw [hf.phase], by rw [hf.act], by rw [hf.seen]⟩
    exact this.shp h.shp
  · exact h.tr.cls hf.vars hf.trail hf.value hf.level hf.reason hf.ends hf.done hf.len fun p z c _ _ => ⟨by rw [hf.lits], fun y hy => by rw [hf.lits] at hy; exact hy⟩
  · rw [hl0, hl1] at hab
    rw [hlv, hlv, hf.trail]
    exact h.pr c (hf.len ▸ hc) (hf.gone c hg) a b hab hP (by rw [hf.trail, hf.done] at hn; exact hn)
theorem new_ok (U : Nat → Prop) (D : List Nat → Prop) {n : Nat} (hn : n ≤ 2000) : UI U D (newS n) fun _ _ => False := by
  have hv : ∀ x, (newS n).val x = 0 := fun x => by
    unfold newS St.val
    simp only [List.getD_eq_getElem?_getD, List.getElem?_replicate]
    split <;> rfl
  have hw : ∀ x, (newS n).wa x = [] := fun x => by
    unfold newS St.wa
    simp only [List.getD_eq_getElem?_getD, List.getElem?_replicate]
    split <;> rfl
  refine ⟨⟨by simp [newS], by simp [newS], by simp [newS], by simp [newS], by simp [newS], by simp [newS], by simp [newS], hn⟩, fun c hc => by simp [newS] at hc, ⟨by simp [newS], by simp [newS], fun x _ => ?_, by simp [newS], by simp [newS], by simp [newS], by simp [newS], by simp [newS]⟩, ⟨fun y => by rw [hw]; simp, fun y c hc => (by rw [hw] at hc; cases hc), fun c hc => by simp [newS] at hc⟩, fun c hc => by simp [newS] at hc⟩
  rw [hv]
  simp [newS]
end
end Go.Proofs.Ytcebafeaikipmaa.S15

namespace Go.Proofs.Ytcebafeaikipmaa.S15

theorem numI_nt {x : Nat} (h : 2 ≤ x) : numI (nt x) = - numI x := by
  unfold numI nt
  by_cases e : x % 2 = 0
  · rw [if_pos e, if_pos (by omega), if_neg (by omega), show (x + 1) / 2 = x / 2 by omega]
  · rw [if_neg e, if_neg (by omega), if_pos (by omega), show (x - 1) / 2 = x / 2 by omega]; omega
theorem numI_inj {x y : Nat} (hx : 2 ≤ x) (hy : 2 ≤ y) (h : numI x = numI y) : x = y := by
  unfold numI at h
  split at h <;> split at h <;> omega
theorem numI_ofI {n : Int} : numI (ofI n) = n := by
  unfold numI ofI
  by_cases h : n < 0
  · rw [if_pos h, if_pos (by omega)]; omega
  · rw [if_neg h, if_neg (by omega)]; omega
theorem ofI_numI {x : Nat} (hx : 2 ≤ x) : ofI (numI x) = x := by
  unfold numI ofI
  by_cases h : x % 2 = 1
  · rw [if_pos h, if_pos (by omega)]; omega
  · rw [if_neg h, if_neg (by omega)]; omega
def Ud (db : List (List Int)) (x : Nat) : Prop := ∃ C ∈ db, ∀ n, n ∈ C ↔ n = numI x
def Dd (db : List (List Int)) (l : List Nat) : Prop := ∃ C ∈ db, ∀ n, n ∈ C ↔ ∃ x ∈ l, numI x = n
theorem dcl_Dd (db : List (List Int)) : Dcl (Dd db) := fun l l' hp ⟨C, hC, h⟩ => ⟨C, hC, fun n => by rw [h n]; exact ⟨fun ⟨x, hx, e⟩ => ⟨x, hp.mem_iff.1 hx, e⟩, fun ⟨x, hx, e⟩ => ⟨x, hp.mem_iff.2 hx, e⟩⟩⟩
theorem Ud.mono {db db' : List (List Int)} (h : ∀ C ∈ db, C ∈ db') (x : Nat) (hx : Ud db x) : Ud db' x := by obtain ⟨C, hC, k⟩ := hx; exact ⟨C, h C hC, k⟩
theorem Dd.mono {db db' : List (List Int)} (h : ∀ C ∈ db, C ∈ db') (l : List Nat) (hx : Dd db l) : Dd db' l := by obtain ⟨C, hC, k⟩ := hx; exact ⟨C, h C hC, k⟩
/-- unit propagation adds nothing, and comes to no clause that is false -/
structure Clo (db : List (List Int)) (Y : Int → Prop) : Prop where
  ne : ∀ C ∈ db, ∃ n ∈ C, ¬ Y (-n)
  un : ∀ C ∈ db, ∀ n ∈ C, (∀ m ∈ C, m ≠ n → Y (-m)) → Y n
  co : ∀ n, Y n → ¬ Y (-n)
/-- unit propagation shows the clause -/
def Rup (db : List (List Int)) (C : List Int) : Prop := ∀ Y, Clo db Y → (∀ n ∈ C, Y (-n)) → False
section
variable {db : List (List Int)} {s : St} {P : Nat → Nat → Prop} {Y : Int → Prop}
theorem UI.yc (h : UI (Ud db) (Dd db) s P) (hY : Clo db Y) : Yc s (fun x => Y (numI x)) := by
  have hun : ∀ c, c < s.cls.length → ∀ x ∈ (s.cl c).lits, (∀ y ∈ (s.cl c).lits, y ≠ x → Y (numI (nt y))) → Y (numI x) := fun c hc x hx hy => by
    obtain ⟨-, -, h3, C, hC, hm⟩ := h.lt c hc
    refine hY.un C hC (numI x) ((hm _).2 ⟨x, hx, rfl⟩) fun m hmC hne => ?_
    obtain ⟨y, hy1, hy2⟩ := (hm m).1 hmC
    have := hy y hy1 fun e => hne (by rw [← hy2, e])
    rw [numI_nt (h3 y hy1).1, hy2] at this
    exact this
  refine ⟨fun c hc => ?_, hun, ?_⟩
  · obtain ⟨-, -, h3, C, hC, hm⟩ := h.lt c hc
    obtain ⟨n, hn, hn2⟩ := hY.ne C hC
    obtain ⟨y, hy1, hy2⟩ := (hm n).1 hn
    exact ⟨y, hy1, by rw [numI_nt (h3 y hy1).1, hy2]; exact hn2⟩
  · have key : ∀ n p, p ≤ n → ∀ z, s.trail[p]? = some z → lvl s.ends p = 0 → Y (numI z) := fun n => by
      induction n with
      | zero =>
        intro p hp z hz hl
        have hre := h.tr.re p z hz
        cases hr : s.reason.getD (z / 2) none with
        | none =>
          rw [hr] at hre
          rcases hre with ⟨-, C, hC, hm⟩ | e
          · exact hY.un C hC (numI z) ((hm _).2 rfl) fun m hm2 hne => (hne ((hm m).1 hm2)).elim
          · have : lvl s.ends p = 0 → False := fun e2 => by
              unfold lvl at e2
              have := List.eq_nil_of_length_eq_zero e2
              rw [List.filter_eq_nil_iff] at this
              exact this p e (by simp)
            exact (this hl).elim
        | some c =>
          rw [hr] at hre
          obtain ⟨r1, r2, r3⟩ := hre
          refine hun c r1 z (by rw [← r2]; exact getD_mem (by have := (h.lt c r1).1; omega)) fun y hy hne => ?_
          have := r3 y hy hne
          rw [show p = 0 by omega] at this
          simp at this
      | succ n ih =>
        intro p hp z hz hl
        have hre := h.tr.re p z hz
        cases hr : s.reason.getD (z / 2) none with
        | none =>
          rw [hr] at hre
          rcases hre with ⟨-, C, hC, hm⟩ | e
          · exact hY.un C hC (numI z) ((hm _).2 rfl) fun m hm2 hne => (hne ((hm m).1 hm2)).elim
          · have : lvl s.ends p = 0 → False := fun e2 => by
              unfold lvl at e2
              have := List.eq_nil_of_length_eq_zero e2
              rw [List.filter_eq_nil_iff] at this
              exact this p e (by simp)
            exact (this hl).elim
        | some c =>
          rw [hr] at hre
          obtain ⟨r1, r2, r3⟩ := hre
          refine hun c r1 z (by rw [← r2]; exact getD_mem (by have := (h.lt c r1).1; omega)) fun y hy hne => ?_
          obtain ⟨q, hq, hq2⟩ := mem_take_iff.1 (r3 y hy hne)
          have hlq := lvl_mono s.ends (Nat.le_of_lt hq)
          exact ih q (by omega) (nt y) hq2 (by omega)
    intro z hz hl
    obtain ⟨p, hp⟩ := List.mem_iff_getElem?.1 hz
    rw [h.tr.le p z hp] at hl
    exact key p p (Nat.le_refl _) z hp hl
/-- a clause that is false though nothing was decided: there are no truths -/
theorem Conf.empty {c : Nat} (h : Conf (Ud db) (Dd db) s c) (he : s.ends = []) : Rup db [] := fun Y hY _ => by
  have hc := h.ui.yc hY
  obtain ⟨y, hy, hy2⟩ := hc.ne c h.lt
  refine hy2 (hc.z0 _ (h.no y hy) ?_)
  obtain ⟨p, hp⟩ := List.mem_iff_getElem?.1 (h.no y hy)
  rw [h.ui.tr.le p _ hp, he]; rfl
theorem Lrn.rup {t : St} {out : List Nat} {lb K : Nat} (h : UI (Ud db) (Dd db) s P) (hl : Lrn s t out lb K) : Rup db (out.map numI) := fun Y hY hn => by
  obtain ⟨x, r, h1, h2, -, -, h5, -⟩ := hl.hd
  refine hl.j _ (h.yc hY) fun y hy => ?_
  have hy2 : 2 ≤ y := by
    rw [h1] at hy
    rcases List.mem_cons.1 hy with k | k
    · rw [k]; exact (okL_nt (h.tr.ok x h2)).1
    · have := okL_nt (h.tr.ok _ (h5 y k).1)
      rw [nt_nt] at this; exact this.1
  rw [numI_nt hy2]
  exact hn _ (List.mem_map.2 ⟨y, hy, rfl⟩)
theorem ends_nil {E : List Nat} (h : E.length = 0) : E = [] := List.eq_nil_of_length_eq_zero h
end
end Go.Proofs.Ytcebafeaikipmaa.S15

namespace Go.Proofs.Ytcebafeaikipmaa.S15

/-- a clause of the question is always true, true without any decision, or one of the clauses -/
def Qc (s : St) (C : List Int) : Prop :=
  (∃ x, 2 ≤ x ∧ numI x ∈ C ∧ numI (nt x) ∈ C) ∨ (∃ x, x ∈ s.trail ∧ s.lv x = 0 ∧ numI x ∈ C) ∨ ∃ c, c < s.cls.length ∧ (s.cl c).used = -1 ∧ (s.cl c).gone = false ∧ ∀ y ∈ (s.cl c).lits, numI y ∈ C
/-- each clause of a proof follows of those ahead of it -/
def RupAll (cs proof : List (List Int)) : Prop := ∀ i C, proof[i]? = some C → Rup (cs ++ proof.take i) C
structure Sw (cs : List (List Int)) (s : St) (conf u : Nat) : Prop where
  sn : ∀ v, s.sn v = false
  av : Av s
  ic : ∀ c ∈ s.clauses, c < s.cls.length
  ln : ∀ c ∈ s.learned, c < s.cls.length ∧ 0 ≤ (s.cl c).used
  us : ∀ c, (s.cl c).used ≤ 3000 * (u : Int)
  b1 : s.learned.length ≤ conf
  b2 : s.proof.length ≤ conf
  b3 : s.cls.length ≤ 16384 + conf
  rp : RupAll cs s.proof
  rn : ∀ C ∈ s.proof, C ≠ []
  qs : ∀ C ∈ cs, Qc s C
abbrev Uc (cs : List (List Int)) (s : St) : Nat → Prop := Ud (cs ++ s.proof)
abbrev Dc_ (cs : List (List Int)) (s : St) : List Nat → Prop := Dd (cs ++ s.proof)
/-- between two rounds -/
structure Sv (cs : List (List Int)) (s : St) (conf : Nat) : Prop where
  ui : UI (Uc cs s) (Dc_ cs s) s fun _ _ => False
  sw : Sw cs s conf conf
section
variable {cs : List (List Int)} {s t : St} {conf u c : Nat} {U V : Nat → Prop}
theorem Tr.lv_app (h : Tr U s) (k : Tr V t) (he : t.ends = s.ends) {l : List Nat} (ht : t.trail = s.trail ++ l) {x : Nat} (hx : x ∈ s.trail) : x ∈ t.trail ∧ t.lv x = s.lv x := by
  obtain ⟨p, hp⟩ := List.mem_iff_getElem?.1 hx
  have hp2 : t.trail[p]? = some x := by rw [ht, List.getElem?_append_left (List.getElem?_eq_some_iff.1 hp).1]; exact hp
  exact ⟨List.mem_of_getElem? hp2, by rw [k.le p x hp2, h.le p x hp, he]⟩
theorem Sw.ext (h : Sw cs s conf u) (e : Ext s t) (h1 : Tr U s) (h2 : Tr V t) : Sw cs t conf u := by
  obtain ⟨l, hl⟩ := e.tr
  refine ⟨fun v => ?_, ⟨?_, ?_⟩, ?_, ?_, fun c => by rw [(e.cl c).1]; exact h.us c, by rw [e.learned]; exact h.b1, by rw [e.proof]; exact h.b2, by rw [e.len]; exact h.b3, by rw [e.proof]; exact h.rp, by rw [e.proof]; exact h.rn, fun C hC => ?_⟩
  · have := h.sn v
    unfold St.sn at this ⊢
    rw [e.seen]; exact this
  · rw [e.act]; exact h.av.ac
  · rw [e.step]; exact h.av.st
  · rw [e.clauses, e.len]; exact h.ic
  · rw [e.learned, e.len]; exact fun c hc => by rw [(e.cl c).1]; exact h.ln c hc
  · rcases h.qs C hC with k | ⟨x, k1, k2, k3⟩ | ⟨c, k1, k2, k3, k4⟩
    · exact .inl k
    · obtain ⟨q1, q2⟩ := h1.lv_app h2 e.ends hl k1
      exact .inr (.inl ⟨x, q1, by rw [q2]; exact k2, k3⟩)
    · exact .inr (.inr ⟨c, by rw [e.len]; exact k1, by rw [(e.cl c).1]; exact k2, by rw [(e.cl c).2.1]; exact k3, fun y hy => k4 y ((e.cl c).2.2.mem_iff.1 hy)⟩)
/-- units -/
theorem Sv.units (h : Sv cs s conf) : UFin (Uc cs s) (Dc_ cs s) (unitsS (s.vars + 1) s).1 (unitsS (s.vars + 1) s).2 ∧ Ext s (unitsS (s.vars + 1) s).1 ∧ Sw cs (unitsS (s.vars + 1) s).1 conf conf := by
  obtain ⟨h1, h2⟩ := units_inv (dcl_Dd _) (s.vars + 1) s h.ui (by omega)
  refine ⟨h1, h2, h.sw.ext h2 h.ui.tr (V := Uc cs s) ?_⟩
  cases hb : (unitsS (s.vars + 1) s).2 with
  | none => rw [hb] at h1; exact h1.1.tr
  | some c => rw [hb] at h1; exact h1.ui.tr
theorem Sw.bk (h : Sw cs s conf u) {lv : Nat} (b : Bk s (backS s lv)) (h1 : Tr U s) : Sw cs (backS s lv) conf u := by
  have hcl : ∀ c, (backS s lv).cl c = s.cl c := fun c => by unfold St.cl; rw [b.cls]
  refine ⟨fun v => ?_, ⟨?_, ?_⟩, ?_, ?_, fun c => by rw [hcl]; exact h.us c, by rw [b.learned]; exact h.b1, by rw [b.proof]; exact h.b2, by rw [b.cls]; exact h.b3, by rw [b.proof]; exact h.rp, by rw [b.proof]; exact h.rn, fun C hC => ?_⟩
  · have := h.sn v
    unfold St.sn at this ⊢
    rw [b.seen]; exact this
  · rw [b.act]; exact h.av.ac
  · rw [b.step]; exact h.av.st
  · rw [b.clauses, b.cls]; exact h.ic
  · rw [b.learned, b.cls]; exact fun c hc => by rw [hcl]; exact h.ln c hc
  · rcases h.qs C hC with k | ⟨x, k1, k2, k3⟩ | ⟨c, k1, k2, k3, k4⟩
    · exact .inl k
    · refine .inr (.inl ⟨x, ?_, ?_, k3⟩)
      · by_cases hl : lv < s.ends.length
        · rw [backS_go hl]
          exact (lv_of_pos h1 hl k1).2 (by omega)
        · unfold backS; rw [if_pos (by omega)]; exact k1
      · unfold St.lv; rw [b.level]; exact k2
    · exact .inr (.inr ⟨c, by rw [b.cls]; exact k1, by rw [hcl]; exact k2, by rw [hcl]; exact k3, by rw [hcl]; exact k4⟩)
theorem Sw.learn (h : Sw cs s conf u) {K lb : Nat} {out : List Nat} (l : Lrn s t out lb K) (hK : K ≤ 2001) : Sw cs t conf (u + 1) := by
  have f := l.fr
  refine ⟨l.sn, l.av, by rw [f.clauses, f.len]; exact h.ic, ?_, fun c => ?_, by rw [f.learned]; exact h.b1, by rw [f.proof]; exact h.b2, by rw [f.len]; exact h.b3, by rw [f.proof]; exact h.rp, by rw [f.proof]; exact h.rn, fun C hC => ?_⟩
  · rw [f.learned, f.len]
    exact fun c hc => ⟨(h.ln c hc).1, Int.le_trans (h.ln c hc).2 (f.cl c).2.2.1⟩
  · have h1 := (f.cl c).2.2.2
    have h2 := h.us c
    omega
  · rcases h.qs C hC with k | ⟨x, k1, k2, k3⟩ | ⟨c, k1, k2, k3, k4⟩
    · exact .inl k
    · exact .inr (.inl ⟨x, by rw [f.trail]; exact k1, by rw [f.lv]; exact k2, k3⟩)
    · exact .inr (.inr ⟨c, by rw [f.len]; exact k1, by rw [f.ng c (by omega)]; exact k2, by rw [(f.cl c).2.1]; exact k3, by rw [(f.cl c).1]; exact k4⟩)
theorem UI.learn {D : List Nat → Prop} {P : Nat → Nat → Prop} (h : UI U D s P) {K : Nat} (f : Lf s t K) : UI U D t P := by
  have hlv := f.lv
  have hwa : ∀ y, t.wa y = s.wa y := fun y => by unfold St.wa; rw [f.watch]
  have hl0 : ∀ c, t.l0 c = s.l0 c := fun c => by unfold St.l0; rw [(f.cl c).1]
  have hl1 : ∀ c, t.l1 c = s.l1 c := fun c => by unfold St.l1; rw [(f.cl c).1]
  have hg : ∀ c, (t.cl c).gone = (s.cl c).gone := fun c => (f.cl c).2.1
  refine ⟨?_, fun c hc => by rw [(f.cl c).1, f.vars]; exact h.lt c (f.len ▸ hc), ?_, ⟨fun y => by rw [hwa]; exact h.wa.nd y, fun y c hc => by rw [hwa] at hc; rw [hl0, hl1, f.len]; exact h.wa.of y c hc, fun c hc hgc => by rw [hwa, hwa, hl0, hl1]; exact h.wa.at_ c (f.len ▸ hc) (by rw [← hg]; exact hgc)⟩, fun c hc hgc a b hab hP hn => ?_⟩
  · have : SameL s t := ⟨f.vars, by rw [f.value], by rw [f.watch], by rw [f.level], by rw [f.reason], by rw [f.phase], f.act, f.seen⟩
    exact this.shp h.shp
  · exact h.tr.cls f.vars f.trail f.value f.level f.reason f.ends f.done f.len fun p z c _ _ => ⟨by rw [(f.cl c).1], fun y hy => by rw [(f.cl c).1] at hy; exact hy⟩
  · rw [hl0, hl1] at hab
    rw [hlv, hlv, f.trail]
    exact h.pr c (f.len ▸ hc) (by rw [← hg]; exact hgc) a b hab hP (by rw [f.trail, f.done] at hn; exact hn)
theorem RupAll.snoc {proof : List (List Int)} (h : RupAll cs proof) {C : List Int} (hC : Rup (cs ++ proof) C) : RupAll cs (proof ++ [C]) := fun i D hi => by
  rcases Nat.lt_or_ge i proof.length with k | k
  · rw [List.getElem?_append_left k] at hi
    rw [List.take_append_of_le_length (Nat.le_of_lt k)]
    exact h i D hi
  · rw [List.getElem?_append_right k] at hi
    have h0 : i = proof.length := by
      have := (List.getElem?_eq_some_iff.1 hi).1
      simp at this; omega
    subst h0
    simp at hi
    subst hi
    rw [List.take_append_of_le_length (Nat.le_refl _), List.take_length]
    exact hC
/-- what a conflict leaves: learned, gone back, kept -/
theorem conflict (hU : Conf (Uc cs s) (Dc_ cs s) s c) (hS : Sw cs s conf conf) (he : 1 ≤ s.ends.length) :
    ∃ K, K ≤ 2001 ∧ Lrn s (learnS s c).1 (learnS s c).2.1 (learnS s c).2.2 K ∧ UI (Uc cs s) (Dc_ cs s) (backS (learnS s c).1 (learnS s c).2.2) (fun _ _ => False) ∧ Sw cs (backS (learnS s c).1 (learnS s c).2.2) conf (conf + 1) ∧
      Sv cs (keepS (backS (learnS s c).1 (learnS s c).2.2) (learnS s c).2.1) (conf + 1) := by
  obtain ⟨K, hK, hl⟩ := learn_ok hU hS.sn hS.av he
  have hlen := hU.ui.tr.len
  have hsm := hU.ui.shp.sm
  have hKb : K ≤ 2001 := by omega
  obtain ⟨t, ht⟩ : ∃ t, t = (learnS s c).1 := ⟨_, rfl⟩
  obtain ⟨out, hout⟩ : ∃ out, out = (learnS s c).2.1 := ⟨_, rfl⟩
  obtain ⟨lb, hlb⟩ : ∃ lb, lb = (learnS s c).2.2 := ⟨_, rfl⟩
  rw [← ht, ← hout, ← hlb] at hl ⊢
  have hS1 := hS.learn hl hKb
  have hU1 := hU.ui.learn hl.fr
  have hrup : Rup (cs ++ s.proof) (out.map numI) := hl.rup hU.ui
  obtain ⟨x, r, o1, o2, o3, o4, o5, o6, o7, o8⟩ := hl.hd
  have hen : t.ends = s.ends := hl.fr.ends
  have hlb2 : lb < t.ends.length := by rw [hen]; exact o6
  obtain ⟨hU2, hd2⟩ := hU1.back hlb2 (fun c a (k : s.lv a = s.ends.length) => by rw [hl.fr.lv, k]; exact o6)
  have hbk := bk_back t lb
  have hS2 := hS1.bk hbk hU1.tr
  obtain ⟨b, hb⟩ : ∃ b, b = backS t lb := ⟨_, rfl⟩
  have hbe : b.ends = t.ends.take lb := by rw [hb, backS_go hlb2]
  have hbt : b.trail = t.trail.take t.ends[lb] := by rw [hb, backS_go hlb2]
  rw [← hb] at hU2 hd2 hS2 hbk ⊢
  have hbp : b.proof = s.proof := hbk.proof.trans hl.fr.proof
  have hbv : b.vars = s.vars := hbk.vars.trans hl.fr.vars
  have hblv : ∀ y, b.lv y = s.lv y := fun y => by unfold St.lv; rw [hbk.level, hl.fr.level]
  have hbel : b.ends.length = lb := by rw [hbe, List.length_take]; omega
  have hxo := hU.ui.tr.ok x o2
  have hxo2 := okL_nt hxo
  -- the first literal is not known any more
  have hnx : x ∉ b.trail ∧ nt x ∉ b.trail := by
    have hx : x ∈ t.trail := by rw [hl.fr.trail]; exact o2
    rw [hbt]
    refine ⟨fun k => ?_, fun k => hU1.tr.not_both hx (List.mem_of_mem_take k)⟩
    have := (lv_of_pos hU1.tr hlb2 hx).1 k
    rw [hl.fr.lv, o3] at this; omega
  have hval : b.val (nt x) = 0 := (hU2.tr.val0 (by rw [hbv]; exact hxo2)).2 ⟨hnx.2, by rw [nt_nt]; exact hnx.1⟩
  have hrt : ∀ y ∈ r, nt y ∈ b.trail := fun y hy => by
    have h1 : nt y ∈ t.trail := by rw [hl.fr.trail]; exact (o5 y hy).1
    rw [hbt]
    exact (lv_of_pos hU1.tr hlb2 h1).2 (by rw [hl.fr.lv, lv_nt]; exact (o5 y hy).2.2)
  refine ⟨K, hKb, hl, hU2, hS2, ?_⟩
  -- the clauses given or proved are one more
  have hp2 : (keepS b out).proof = s.proof ++ [out.map numI] := by
    by_cases e : out.length = 1
    · rw [keepS_one e]; show b.proof ++ _ = _; rw [hbp]
    · rw [keepS_more e]
      have := (att_att { b with proof := b.proof ++ [out.map numI] } out 0 b.clauses (b.learned ++ [b.cls.length])).proof
      show (attS { b with proof := b.proof ++ [out.map numI] } out 0 b.clauses (b.learned ++ [b.cls.length])).proof = _
      rw [this, ← hbp]
  have hsub : ∀ C ∈ cs ++ s.proof, C ∈ cs ++ (s.proof ++ [out.map numI]) := fun C hC => by rw [← List.append_assoc]; exact List.mem_append_left _ hC
  have hmem : out.map numI ∈ cs ++ (s.proof ++ [out.map numI]) := by rw [← List.append_assoc]; simp
  have hU3 : UI (Ud (cs ++ (s.proof ++ [out.map numI]))) (Dd (cs ++ (s.proof ++ [out.map numI]))) b fun _ _ => False := hU2.mono (fun x hx => Ud.mono hsub x hx) (fun l hl => Dd.mono hsub l hl)
  have hmi : ∀ n, n ∈ out.map numI ↔ ∃ y ∈ out, numI y = n := fun n => by rw [List.mem_map]
  have hU4 := hU3.keep (x := nt x) (r := r) (by rw [hbv]; exact hxo2) hval o4 (fun y hy => ⟨hrt y hy, by rw [hblv, hbel]; exact (o5 y hy).2.2⟩)
    (fun e => ⟨List.eq_nil_of_length_eq_zero (by rw [hbel]; exact o7 e), out.map numI, hmem, fun n => by rw [hmi, o1, e]; simp [eq_comm]⟩)
    (fun e => ⟨by rw [hblv, hbel]; exact o8 e, out.map numI, hmem, fun n => by rw [hmi, o1]⟩)
  rw [← o1] at hU4
  refine ⟨by show UI (Ud (cs ++ (keepS b out).proof)) (Dd (cs ++ (keepS b out).proof)) _ _; rw [hp2]; exact hU4, ?_⟩
  have hone : out ≠ [] := by rw [o1]; simp
  have hrpn : RupAll cs (keepS b out).proof := by rw [hp2]; exact (hbp ▸ hS2.rp).snoc hrup
  have hrnn : ∀ C ∈ (keepS b out).proof, C ≠ [] := by
    rw [hp2]
    intro C hC
    rcases List.mem_append.1 hC with k | k
    · exact hS2.rn C (hbp.symm ▸ k)
    · rw [List.mem_singleton.1 k]; simpa using hone
  have hgd : out.getD 0 0 = nt x := by rw [o1]; rfl
  have hlvx : ∀ z, z ∈ b.trail → z / 2 ≠ nt x / 2 := fun z hz e => by
    rcases half_eq e with e | e
    · subst e; exact hnx.2 hz
    · rw [nt_nt] at e; subst e; exact hnx.1 hz
  have hlvk : ∀ (q : St) (bb : Option Nat) (z : Nat), q.level = b.level → z ∈ b.trail → (setS q (nt x) bb).lv z = b.lv z := fun q bb z hq hz => by
    unfold St.lv setS
    simp only [List.getD_eq_getElem?_getD]
    rw [List.getElem?_set_ne (fun e => hlvx z hz e.symm), hq]
  by_cases e : out.length = 1
  · have hk : keepS b out = setS { b with proof := b.proof ++ [out.map numI] } (nt x) none := by rw [keepS_one e, hgd]
    refine ⟨?_, ?_, ?_, ?_, ?_, ?_, by rw [hp2, List.length_append, List.length_singleton, ← hbp]; have := hS2.b2; omega, ?_, hrpn, hrnn, fun C hC => ?_⟩
    · rw [hk]; exact hS2.sn
    · rw [hk]; exact ⟨hS2.av.ac, hS2.av.st⟩
    · rw [hk]; exact hS2.ic
    · rw [hk]; exact hS2.ln
    · rw [hk]; exact hS2.us
    · rw [hk]; have := hS2.b1; show b.learned.length ≤ _; omega
    · rw [hk]; have := hS2.b3; show b.cls.length ≤ _; omega
    · rw [hk]
      rcases hS2.qs C hC with k | ⟨z, k1, k2, k3⟩ | k
      · exact .inl k
      · exact .inr (.inl ⟨z, List.mem_append_left _ k1, (hlvk { b with proof := b.proof ++ [out.map numI] } none z rfl k1).trans k2, k3⟩)
      · exact .inr (.inr k)
  · have ha := att_att { b with proof := b.proof ++ [out.map numI] } out 0 b.clauses (b.learned ++ [b.cls.length])
    obtain ⟨q, hq⟩ : ∃ q, q = attS { b with proof := b.proof ++ [out.map numI] } out 0 b.clauses (b.learned ++ [b.cls.length]) := ⟨_, rfl⟩
    have hk : keepS b out = setS q (nt x) (some b.cls.length) := by rw [keepS_more e, hgd, ← hq]
    have hql : q.learned = b.learned ++ [b.cls.length] := by rw [hq, attS_eq]; rfl
    have hqc : q.clauses = b.clauses := by rw [hq, attS_eq]; rfl
    rw [← hq] at ha
    have hlen : q.cls.length = b.cls.length + 1 := ha.len
    have hold : ∀ d, d < b.cls.length → q.cl d = b.cl d := ha.old
    have hnew : q.cl b.cls.length = ⟨out, 0, false⟩ := ha.new
    refine ⟨fun v => ?_, ?_, ?_, ?_, fun d => ?_, ?_, by rw [hp2, List.length_append, List.length_singleton, ← hbp]; have := hS2.b2; omega, ?_, hrpn, hrnn, fun C hC => ?_⟩
    · rw [hk]
      have := hS2.sn v
      unfold St.sn at this ⊢
      show q.seen.getD v false = false
      rw [ha.seen]; exact this
    · rw [hk]; exact ⟨by show ∀ a ∈ q.act, _; rw [ha.act]; exact hS2.av.ac, by show q.step < _; rw [ha.step]; exact hS2.av.st⟩
    · rw [hk]; show ∀ d ∈ q.clauses, d < q.cls.length; rw [hqc, hlen]; exact fun d hd => by have := hS2.ic d hd; omega
    · rw [hk]; show ∀ d ∈ q.learned, d < q.cls.length ∧ 0 ≤ (q.cl d).used
      rw [hql, hlen]
      intro d hd
      rcases List.mem_append.1 hd with k | k
      · have := hS2.ln d k
        rw [hold d this.1]; exact ⟨by omega, this.2⟩
      · rw [List.mem_singleton.1 k, hnew]; exact ⟨by omega, Int.le_refl _⟩
    · rw [hk]; show (q.cl d).used ≤ _
      rcases Nat.lt_trichotomy d b.cls.length with k | k | k
      · rw [hold d k]; exact hS2.us d
      · rw [k, hnew]; show (0 : Int) ≤ _; omega
      · have : q.cl d = ⟨[], 0, false⟩ := by unfold St.cl; rw [List.getD_eq_getElem?_getD, List.getElem?_eq_none (by omega)]; rfl
        rw [this]; show (0 : Int) ≤ _; omega
    · rw [hk]; show q.learned.length ≤ _; rw [hql, List.length_append, List.length_singleton]; have := hS2.b1; omega
    · rw [hk]; show q.cls.length ≤ _; rw [hlen]; have := hS2.b3; omega
    · rw [hk]
      rcases hS2.qs C hC with k | ⟨z, k1, k2, k3⟩ | ⟨d, k1, k2, k3, k4⟩
      · exact .inl k
      · refine .inr (.inl ⟨z, ?_, (hlvk q _ z ha.level k1).trans k2, k3⟩)
        show z ∈ q.trail ++ [nt x]
        rw [ha.trail]; exact List.mem_append_left _ k1
      · refine .inr (.inr ⟨d, by show d < q.cls.length; rw [hlen]; omega, ?_, ?_, ?_⟩)
        · show (q.cl d).used = -1; rw [hold d k1]; exact k2
        · show (q.cl d).gone = false; rw [hold d k1]; exact k3
        · show ∀ y ∈ (q.cl d).lits, _; rw [hold d k1]; exact k4
end
end Go.Proofs.Ytcebafeaikipmaa.S15

namespace Go.Proofs.Ytcebafeaikipmaa.S15

/-- truths as they are read off -/
def trueL (t : List Bool) (n : Int) : Bool := if 0 < n then t.getD (n.toNat - 1) false else !(t.getD ((-n).toNat - 1) false)
section
variable {cs : List (List Int)} {s t : St} {conf u c : Nat} {U V : Nat → Prop}
theorem Sv.restart (h : Sv cs s conf) (hd : s.done = s.trail.length) : Sv cs (backS s 0) conf ∧ (backS s 0).done = (backS s 0).trail.length := by
  by_cases hl : 0 < s.ends.length
  · have hb := bk_back s 0
    obtain ⟨h1, h2⟩ := h.ui.back hl (fun _ _ k => k.elim)
    refine ⟨⟨?_, h.sw.bk hb h.ui.tr⟩, h2⟩
    show UI (Ud (cs ++ (backS s 0).proof)) (Dd (cs ++ (backS s 0).proof)) _ _
    rw [hb.proof]; exact h1
  · have e : backS s 0 = s := by unfold backS; rw [if_pos (by omega)]
    rw [e]; exact ⟨h, hd⟩
theorem Sv.forget (h : Sv cs s conf) (hd : s.done = s.trail.length) {l : List Nat} (hl : l.Perm s.learned) : Sv cs (forgetS s l) conf ∧ (forgetS s l).done = (forgetS s l).trail.length := by
  obtain ⟨f, h2, h3⟩ := forget_ok s l
  have hl2 : ∀ d, d ∈ l → d < s.cls.length ∧ 0 ≤ (s.cl d).used := fun d hd => h.sw.ln d (hl.mem_iff.1 hd)
  refine ⟨⟨?_, fun v => ?_, ⟨?_, ?_⟩, ?_, ?_, fun d => ?_, ?_, by rw [f.proof]; exact h.sw.b2, by rw [f.len]; exact h.sw.b3, by rw [f.proof]; exact h.sw.rp, by rw [f.proof]; exact h.sw.rn, fun C hC => ?_⟩, by rw [f.done, f.trail]; exact hd⟩
  · show UI (Ud (cs ++ (forgetS s l).proof)) (Dd (cs ++ (forgetS s l).proof)) _ _
    rw [f.proof]; exact h.ui.forget f
  · have := h.sw.sn v
    unfold St.sn at this ⊢
    rw [f.seen]; exact this
  · rw [f.act]; exact h.sw.av.ac
  · rw [f.step]; exact h.sw.av.st
  · rw [f.clauses, f.len]; exact h.sw.ic
  · rw [f.len]
    exact fun d hd => ⟨(hl2 d (h2 d hd)).1, (f.used d (hl2 d (h2 d hd)).2).1⟩
  · by_cases e : d ∈ l
    · exact Int.le_trans (f.used d (hl2 d e).2).2 (h.sw.us d)
    · rw [f.old d e]; exact h.sw.us d
  · have := hl.length_eq; have := h.sw.b1; omega
  · rcases h.sw.qs C hC with k | ⟨x, k1, k2, k3⟩ | ⟨d, k1, k2, k3, k4⟩
    · exact .inl k
    · exact .inr (.inl ⟨x, by rw [f.trail]; exact k1, by unfold St.lv; rw [f.level]; exact k2, k3⟩)
    · have e : d ∉ l := fun e => by have := (hl2 d e).2; omega
      exact .inr (.inr ⟨d, by rw [f.len]; exact k1, by rw [f.old d e]; exact k2, by rw [f.old d e]; exact k3, by rw [f.old d e]; exact k4⟩)
theorem Sv.decide (h : Sv cs s conf) (hd : s.done = s.trail.length) (ht : decideS s = some t) : Sv cs t conf ∧ Dc s t := by
  obtain ⟨h1, h2⟩ := h.ui.decide hd ht
  obtain ⟨x, hx, h0, rfl⟩ := decide_some h.ui.tr ht
  refine ⟨⟨h1, h.sw.sn, ⟨h.sw.av.ac, h.sw.av.st⟩, h.sw.ic, h.sw.ln, h.sw.us, h.sw.b1, h.sw.b2, h.sw.b3, h.sw.rp, h.sw.rn, fun C hC => ?_⟩, h2⟩
  obtain ⟨n1, n2⟩ := (h.ui.tr.val0 hx).1 h0
  rcases h.sw.qs C hC with k | ⟨z, k1, k2, k3⟩ | k
  · exact .inl k
  · refine .inr (.inl ⟨z, List.mem_append_left _ k1, ?_, k3⟩)
    rw [← k2]
    unfold St.lv setS
    simp only [List.getD_eq_getElem?_getD]
    rw [List.getElem?_set_ne]
    intro e
    rcases half_eq e with e | e
    · subst e; exact n1 k1
    · rw [e, nt_nt] at n2; exact n2 k1
  · exact .inr (.inr k)
theorem Sv.step (h : Sv cs s conf) {n : Nat} (hn : n < 2199023255552) : Sv cs { s with step := n } conf :=
  ⟨h.ui.of_eq rfl rfl rfl rfl rfl rfl rfl rfl rfl rfl rfl rfl, h.sw.sn, ⟨h.sw.av.ac, hn⟩, h.sw.ic, h.sw.ln, h.sw.us, h.sw.b1, h.sw.b2, h.sw.b3, h.sw.rp, h.sw.rn, h.sw.qs⟩
theorem truthsS_len (s : St) : (truthsS s).length = s.vars := by simp [truthsS]
theorem truthsS_getD (s : St) {v : Nat} (h1 : 1 ≤ v) (h2 : v ≤ s.vars) : (truthsS s).getD (v - 1) false = (s.val (2 * v) == 1) := by
  unfold truthsS
  rw [List.getD_eq_getElem?_getD, List.getElem?_map, List.getElem?_range (by omega)]
  simp only [Option.map_some, Option.getD_some]
  rw [show v - 1 + 1 = v by omega]
/-- a literal that is true is true by the truths -/
theorem true_lit (hT : Tr U s) {y : Nat} (hy : okL s.vars y) (hv : s.val y = 1) : trueL (truthsS s) (numI y) = true := by
  unfold trueL numI
  have h1 := hy.1
  have h2 := hy.2
  by_cases e : y % 2 = 1
  · rw [if_pos e, if_neg (by omega)]
    have e2 : ((-(-((y / 2 : Nat) : Int))).toNat - 1) = y / 2 - 1 := by omega
    rw [e2, truthsS_getD s (by omega) (by omega)]
    have hn : nt y = 2 * (y / 2) := by unfold nt; rw [if_neg (by omega)]; omega
    have : s.val (2 * (y / 2)) = 2 := by
      rw [← hn, hT.val2 (okL_nt hy), nt_nt]
      exact (hT.val1 hy).1 hv
    rw [this]; rfl
  · rw [if_neg e, if_pos (by omega)]
    have e2 : (((y / 2 : Nat) : Int).toNat - 1) = y / 2 - 1 := by omega
    rw [e2, truthsS_getD s (by omega) (by omega), show 2 * (y / 2) = y by omega, hv]; rfl
/-- all are known: the truths make each clause true -/
theorem Sv.truths (h : Sv cs s conf) (hd : s.done = s.trail.length) (hn : decideS s = none) (hcs : ∀ C ∈ cs, ∀ n ∈ C, n ≠ 0 ∧ n.natAbs ≤ s.vars) : ∀ C ∈ cs, ∃ n ∈ C, trueL (truthsS s) n = true := by
  have hT := h.ui.tr
  have hk : ∀ y, okL s.vars y → s.val y ≠ 0 := fun y hy e => by
    have h1 := hy.1
    have h2 := hy.2
    obtain ⟨n1, n2⟩ := (hT.val0 hy).1 e
    refine decide_none hn (y / 2) (by omega) (by omega) ?_
    by_cases e2 : y % 2 = 0
    · rw [show 2 * (y / 2) = y by omega]; exact e
    · have hny : nt y = 2 * (y / 2) := by unfold nt; rw [if_neg e2]; omega
      rw [← hny]
      exact (hT.val0 (okL_nt hy)).2 ⟨n2, by rw [nt_nt]; exact n1⟩
  have hor : ∀ y, okL s.vars y → s.val y = 1 ∨ s.val (nt y) = 1 := fun y hy => by
    have := hT.val_le hy
    have := hk y hy
    by_cases e : s.val y = 1
    · exact .inl e
    · have e2 : s.val y = 2 := by omega
      exact .inr ((hT.val1 (okL_nt hy)).2 ((hT.val2 hy).1 e2))
  intro C hC
  rcases h.sw.qs C hC with ⟨x, k1, k2, k3⟩ | ⟨x, k1, k2, k3⟩ | ⟨d, k1, k2, k3, k4⟩
  · have hx : okL s.vars x := ⟨k1, by have := (hcs C hC _ k2).2; unfold numI at this; split at this <;> omega⟩
    rcases hor x hx with e | e
    · exact ⟨_, k2, true_lit hT hx e⟩
    · exact ⟨_, k3, true_lit hT (okL_nt hx) e⟩
  · exact ⟨_, k3, true_lit hT (hT.ok x k1) ((hT.val1 (hT.ok x k1)).2 k1)⟩
  · obtain ⟨g1, g2, g3, g4⟩ := h.ui.lt d k1
    have m0 : s.l0 d ∈ (s.cl d).lits := getD_mem (by omega)
    have m1 : s.l1 d ∈ (s.cl d).lits := getD_mem (by omega)
    rcases hor _ (g3 _ m0) with e | e
    · exact ⟨_, k4 _ m0, true_lit hT (g3 _ m0) e⟩
    · have hf : nt (s.l0 d) ∈ s.trail.take s.done := by
        rw [hd, List.take_length]
        exact (hT.val1 (okL_nt (g3 _ m0))).1 e
      obtain ⟨q1, -⟩ := h.ui.pr d k1 k3 _ _ (.inl ⟨rfl, rfl⟩) id hf
      exact ⟨_, k4 _ m1, true_lit hT (g3 _ m1) ((hT.val1 (g3 _ m1)).2 q1)⟩
end
/-- what a round answers -/
def AnsOk (cs : List (List Int)) (n most : Nat) : SAns → Prop
  | .opn k => k = most + 1
  | .unsat p k => k ≤ most ∧ ∃ p', p = p' ++ [[]] ∧ RupAll cs p ∧ ∀ C ∈ p', C ≠ []
  | .sat t k => k ≤ most ∧ t.length = n ∧ ∀ C ∈ cs, ∃ m ∈ C, trueL t m = true
/-- a search between two rounds -/
structure Ctv (cs : List (List Int)) (n most : Nat) (k : Ct) : Prop where
  sv : Sv cs k.st k.conf
  vars : k.st.vars = n
  le : k.conf ≤ most
  room : 200 ≤ k.room
  rest : 50 ≤ k.rest
  ll : k.left ≤ (k.rest : Int)
  rl : 2 * (k.rest : Int) - k.left ≤ 50 + (k.conf : Int)
  rm : k.room ≤ 200 + 2 * k.conf
section
variable {cs : List (List Int)} {n most : Nat} {k : Ct} {l : List Nat}
theorem keepS_vars (s : St) (l : List Nat) : (keepS s l).vars = s.vars ∧ (keepS s l).step = s.step := by
  by_cases e : l.length = 1
  · rw [keepS_one e]; exact ⟨rfl, rfl⟩
  · rw [keepS_more e]
    have h := att_att { s with proof := s.proof ++ [l.map numI] } l 0 s.clauses (s.learned ++ [s.cls.length])
    exact ⟨h.vars, h.step⟩
/-- what units leave, ahead of a decision -/
def readyS (k : Ct) (l : List Nat) : Ct := roomS (restS k (unitsS (k.st.vars + 1) k.st).1) l
theorem roundS_eq (most : Nat) (k : Ct) (l : List Nat) : roundS most k l =
    match (unitsS (k.st.vars + 1) k.st).2 with
    | some c =>
      if most < k.conf + 1 then .inr (.opn (k.conf + 1))
      else if (unitsS (k.st.vars + 1) k.st).1.ends.length = 0 then .inr (.unsat ((unitsS (k.st.vars + 1) k.st).1.proof ++ [[]]) (k.conf + 1))
      else
        let q := learnS (unitsS (k.st.vars + 1) k.st).1 c
        let s := keepS (backS q.1 q.2.2) q.2.1
        .inl { k with st := { s with step := s.step + s.step / 16 }, conf := k.conf + 1, left := k.left - 1 }
    | none => match decideS (readyS k l).st with
      | none => .inr (.sat (truthsS (readyS k l).st) (readyS k l).conf)
      | some s => .inl { readyS k l with st := s } := by
  unfold roundS readyS
  obtain ⟨s, b⟩ := unitsS (k.st.vars + 1) k.st
  cases b <;> rfl
theorem Ctv.ready (h : Ctv cs n most k) (hl : l.Perm k.st.learned) (hb : (unitsS (k.st.vars + 1) k.st).2 = none) :
    Sv cs (readyS k l).st (readyS k l).conf ∧ (readyS k l).st.done = (readyS k l).st.trail.length ∧ (readyS k l).st.vars = n ∧ (readyS k l).conf = k.conf ∧ 200 ≤ (readyS k l).room ∧ 50 ≤ (readyS k l).rest ∧ ((readyS k l).left = k.left ∧ 0 < k.left ∧ k.st.trail.length ≤ (readyS k l).st.trail.length ∨ k.left ≤ 0 ∧ 0 < (readyS k l).left) ∧
      (readyS k l).left ≤ ((readyS k l).rest : Int) ∧ 2 * ((readyS k l).rest : Int) - (readyS k l).left ≤ 50 + (k.conf : Int) ∧ (readyS k l).room ≤ 200 + 2 * k.conf := by
  obtain ⟨h1, h2, h3⟩ := h.sv.units
  rw [hb] at h1
  obtain ⟨h1, h4⟩ := h1
  obtain ⟨s, hs⟩ : ∃ s, s = (unitsS (k.st.vars + 1) k.st).1 := ⟨_, rfl⟩
  unfold readyS
  rw [← hs] at h1 h2 h3 h4 ⊢
  have hv : s.vars = n := h2.vars.trans h.vars
  have hsv : Sv cs s k.conf := ⟨by show UI (Ud (cs ++ s.proof)) (Dd (cs ++ s.proof)) _ _; rw [h2.proof]; exact h1, h3⟩
  have hlr : s.learned = k.st.learned := h2.learned
  have hR : Sv cs (restS k s).st k.conf ∧ (restS k s).st.done = (restS k s).st.trail.length ∧ (restS k s).st.vars = n ∧ (restS k s).conf = k.conf ∧ 200 ≤ (restS k s).room ∧ (restS k s).st.learned = k.st.learned ∧ 50 ≤ (restS k s).rest ∧ ((restS k s).left = k.left ∧ 0 < k.left ∧ k.st.trail.length ≤ (restS k s).st.trail.length ∨ k.left ≤ 0 ∧ 0 < (restS k s).left) ∧
      (restS k s).left ≤ ((restS k s).rest : Int) ∧ 2 * ((restS k s).rest : Int) - (restS k s).left ≤ 50 + (k.conf : Int) ∧ (restS k s).room = k.room := by
    unfold restS
    split
    · obtain ⟨q1, q2⟩ := hsv.restart h4
      have hb := bk_back s 0
      have hr := h.rest
      have hrl := h.rl
      exact ⟨q1, q2, hb.vars.trans hv, rfl, h.room, hb.learned.trans hlr, by show 50 ≤ k.rest + _; omega, .inr ⟨by assumption, by show (0 : Int) < ((k.rest + k.rest / 2 : Nat) : Int); omega⟩, Int.le_refl _, by show 2 * ((k.rest + k.rest / 2 : Nat) : Int) - ((k.rest + k.rest / 2 : Nat) : Int) ≤ _; omega, rfl⟩
    · exact ⟨hsv, h4, hv, rfl, h.room, hlr, h.rest, .inl ⟨rfl, by omega, by obtain ⟨e, he⟩ := h2.tr; show _ ≤ s.trail.length; rw [he]; simp⟩, h.ll, h.rl, rfl⟩
  obtain ⟨r1, r2, r3, r4, r5, r6, r7, r8, r9, r10, r11⟩ := hR
  unfold roomS
  split
  · obtain ⟨q1, q2⟩ := r1.forget r2 (l := l) (by rw [r6]; exact hl)
    exact ⟨by show Sv cs (forgetS (restS k s).st l) (restS k s).conf; rw [r4]; exact q1, q2, (forget_ok _ l).1.vars.trans r3, r4, by show 200 ≤ (restS k s).room + _; omega, r7, by show _ ∧ _ ∧ _ ≤ (forgetS (restS k s).st l).trail.length ∨ _; rw [(forget_ok _ l).1.trail]; exact r8, r9, r10, by
      have hb1 := r1.sw.b1
      show (restS k s).room + (restS k s).room / 4 ≤ _
      have : (restS k s).room < (restS k s).st.learned.length := by assumption
      omega⟩
  · exact ⟨by rw [r4]; exact r1, r2, r3, r4, r5, r7, r8, r9, r10, by rw [r11]; exact h.rm⟩
/-- what every round lowers -/
def muS (n most : Nat) (k : Ct) : Nat := (most + 1 - k.conf) * (2 * (n + 2)) + (if k.left ≤ 0 then n + 2 else 0) + (n + 1 - k.st.trail.length)
theorem Ctv.round (hcs : ∀ C ∈ cs, ∀ m ∈ C, m ≠ 0 ∧ m.natAbs ≤ n) (h : Ctv cs n most k) (hl : l.Perm k.st.learned) :
    match roundS most k l with
    | .inl k' => Ctv cs n most k' ∧ muS n most k' < muS n most k
    | .inr a => AnsOk cs n most a := by
  rw [roundS_eq]
  obtain ⟨h1, h2, h3⟩ := h.sv.units
  cases hb : (unitsS (k.st.vars + 1) k.st).2 with
  | some c =>
    simp only
    rw [hb] at h1
    obtain ⟨s, hs⟩ : ∃ s, s = (unitsS (k.st.vars + 1) k.st).1 := ⟨_, rfl⟩
    rw [← hs] at h1 h2 h3 ⊢
    have h1' : Conf (Uc cs s) (Dc_ cs s) s c := by show Conf (Ud (cs ++ s.proof)) (Dd (cs ++ s.proof)) _ _; rw [h2.proof]; exact h1
    by_cases hm : most < k.conf + 1
    · rw [if_pos hm]
      show k.conf + 1 = most + 1
      have := h.le; omega
    · rw [if_neg hm]
      by_cases he : s.ends.length = 0
      · rw [if_pos he]
        exact ⟨by omega, s.proof, rfl, h3.rp.snoc (h1'.empty (ends_nil he)), h3.rn⟩
      · rw [if_neg he]
        simp only
        obtain ⟨K, hK, hl, hU2, hS2, hk⟩ := conflict h1' h3 (by omega)
        have hst : (keepS (backS (learnS s c).1 (learnS s c).2.2) (learnS s c).2.1).step < 1099511627776 := by
          rw [(keepS_vars _ _).2, (bk_back _ _).step]; exact hl.st
        refine ⟨⟨hk.step (by omega), ?_, by show k.conf + 1 ≤ most; omega, h.room, h.rest, by show k.left - 1 ≤ (k.rest : Int); have := h.ll; omega, by show 2 * (k.rest : Int) - (k.left - 1) ≤ 50 + ((k.conf + 1 : Nat) : Int); have := h.rl; omega, by show k.room ≤ 200 + 2 * (k.conf + 1); have := h.rm; omega⟩, ?_⟩
        · show (keepS (backS (learnS s c).1 (learnS s c).2.2) (learnS s c).2.1).vars = n
          rw [(keepS_vars _ _).1, (bk_back _ _).vars, hl.fr.vars, h2.vars]; exact h.vars
        · unfold muS
          simp only
          obtain ⟨d, hd⟩ : ∃ d, most + 1 - k.conf = d + 1 := ⟨most - k.conf, by omega⟩
          rw [show most + 1 - (k.conf + 1) = d by omega, hd, Nat.add_mul]
          split <;> split <;> omega
  | none =>
    simp only
    obtain ⟨r1, r2, r3, r4, r5, r6, r7, r8, r9, r10⟩ := h.ready hl hb
    cases hd : decideS (readyS k l).st with
    | none => exact ⟨by rw [r4]; exact h.le, by rw [truthsS_len]; exact r3, r1.truths r2 hd (by rw [r3]; exact hcs)⟩
    | some t =>
      obtain ⟨q1, q2⟩ := r1.decide r2 hd
      refine ⟨⟨q1, q2.vars.trans r3, by show (readyS k l).conf ≤ most; rw [r4]; exact h.le, r5, r6, r8, by show _ ≤ 50 + ((readyS k l).conf : Int); rw [r4]; exact r9, by show _ ≤ 200 + 2 * (readyS k l).conf; rw [r4]; exact r10⟩, ?_⟩
      obtain ⟨x, x1, -⟩ := q2.trail
      have hle := q1.ui.tr.len
      rw [q2.vars.trans r3] at hle
      have hlk := h.sv.ui.tr.len
      rw [h.vars] at hlk
      have hx : t.trail.length = (readyS k l).st.trail.length + 1 := by rw [x1]; simp
      unfold muS
      simp only
      rw [r4]
      rcases r7 with ⟨e1, e2, e3⟩ | ⟨e1, e2⟩
      · rw [e1]
        split <;> omega
      · rw [if_neg (by omega), if_pos e1]; omega
/-- a search runs -/
inductive Run (most : Nat) : Ct → SAns → Prop where
  | stop {k : Ct} {a : SAns} (l : List Nat) (hl : l.Perm k.st.learned) (h : roundS most k l = .inr a) : Run most k a
  | step {k k' : Ct} {a : SAns} (l : List Nat) (hl : l.Perm k.st.learned) (h : roundS most k l = .inl k') (r : Run most k' a) : Run most k a
theorem Run.ok (hcs : ∀ C ∈ cs, ∀ m ∈ C, m ≠ 0 ∧ m.natAbs ≤ n) {a : SAns} (r : Run most k a) (h : Ctv cs n most k) : AnsOk cs n most a := by
  induction r with
  | stop l hl e =>
    have := h.round hcs hl
    rw [e] at this; exact this
  | step l hl e _ ih =>
    have := h.round hcs hl
    rw [e] at this; exact ih this.1
end
end Go.Proofs.Ytcebafeaikipmaa.S15

namespace Go.Proofs.Ytcebafeaikipmaa.S15

def Rb (s : St) : Prop := ∀ c, some c ∈ s.reason → c < s.cls.length
section
variable {cs : List (List Int)} {s t : St} {conf u c : Nat} {U : Nat → Prop} {D : List Nat → Prop} {P : Nat → Nat → Prop}
theorem Rb.of_eq (h : Rb s) (h1 : t.reason = s.reason) (h2 : t.cls.length = s.cls.length) : Rb t := fun c hc => by rw [h2]; exact h c (h1 ▸ hc)
theorem Rb.set (h : Rb s) (x : Nat) (b : Option Nat) (hb : ∀ c, b = some c → c < s.cls.length) : Rb (setS s x b) := fun c hc => by
  rcases List.mem_or_eq_of_mem_set (show some c ∈ s.reason.set (x / 2) b from hc) with k | k
  · exact h c k
  · exact hb c k.symm
theorem len_look (s : St) (c x : Nat) : (lookS s c x).1.cls.length = s.cls.length := by
  unfold lookS
  simp only
  split
  · simp [setL]
  · split
    · simp [setL, pushW]
    · split <;> simp [setL, setS]
theorem Rb.look (h : Rb s) (c x : Nat) (hc : c < s.cls.length) : Rb (lookS s c x).1 := by
  unfold lookS
  simp only
  split
  · exact h.of_eq rfl (by simp [setL])
  · split
    · exact h.of_eq rfl (by simp [setL, pushW])
    · split
      · exact h.of_eq rfl (by simp [setL])
      · exact Rb.set (s := setL s c (turnL (s.cl c).lits x)) (h.of_eq rfl (by simp [setL])) _ _ fun d hd => by cases hd; simpa [setL] using hc
theorem Rb.inner (x : Nat) : ∀ (r : List Nat) (s : St) (kept : List Nat) (bad : Option Nat), Rb s → (∀ c ∈ r, c < s.cls.length) → Rb (innerS x r s kept bad).1
  | [], s, kept, bad, h, _ => by unfold innerS; exact h
  | c :: r, s, kept, bad, h, hr => by
    have h2 : ∀ d ∈ r, d < s.cls.length := fun d hd => hr d (List.mem_cons_of_mem _ hd)
    unfold innerS
    split
    · exact Rb.inner x r s kept bad h h2
    · cases bad with
      | some b => exact Rb.inner x r s _ _ h h2
      | none =>
        have h3 := h.look c x (hr c (by simp))
        have h4 := len_look s c x
        exact Rb.inner x r (lookS s c x).1 _ _ h3 fun d hd => by rw [h4]; exact h2 d hd
theorem Rb.units (hD : Dcl D) : ∀ (f : Nat) (s : St), UI U D s (fun _ _ => False) → Rb s → Rb (unitsS f s).1
  | 0, s, _, h => by rw [unitsS]; exact h
  | f + 1, s, hu, h => by
    by_cases hd : s.done < s.trail.length
    · rw [unitsS_go f hd]
      obtain ⟨h1, h2, -⟩ := hu.unit1 hD hd
      have h3 : Rb (eff (unitS1 s).1 (nt (s.trail.getD s.done 0)) (unitS1 s).2.1) := by
        refine Rb.of_eq (s := (unitS1 s).1) ?_ rfl rfl
        exact Rb.inner _ _ _ _ _ (h.of_eq rfl rfl) fun c hc => (hu.wa.of _ c hc).1
      cases hb : (unitS1 s).2.2 with
      | some b => exact h3
      | none => rw [hb] at h1; exact Rb.units hD f _ h1.fin h3
    · rw [unitsS_end f hd]; exact h
theorem rb_undos : ∀ (l : List Nat) (s : St), Rb s → Rb (l.foldl undoS s)
  | [], _, h => h
  | y :: l, s, h => rb_undos l (undoS s y) fun c hc => by
    rcases List.mem_or_eq_of_mem_set (show some c ∈ s.reason.set (y / 2) none from hc) with k | k
    · exact h c k
    · cases k
theorem Rb.back (h : Rb s) (lv : Nat) : Rb (backS s lv) := by
  unfold backS
  split
  · exact h
  · exact rb_undos _ s h
theorem Rb.learn {K lb : Nat} {out : List Nat} (h : Rb s) (l : Lrn s t out lb K) : Rb t := h.of_eq l.fr.reason l.fr.len
theorem Rb.keep (h : Rb s) (l : List Nat) : Rb (keepS s l) := by
  by_cases e : l.length = 1
  · rw [keepS_one e]
    exact Rb.set (s := { s with proof := s.proof ++ [l.map numI] }) h _ _ fun c hc => by cases hc
  · rw [keepS_more e]
    have ha := att_att { s with proof := s.proof ++ [l.map numI] } l 0 s.clauses (s.learned ++ [s.cls.length])
    have hl : (attS { s with proof := s.proof ++ [l.map numI] } l 0 s.clauses (s.learned ++ [s.cls.length])).cls.length = s.cls.length + 1 := by rw [attS_eq]; simp [pushW, newC]
    refine Rb.set (s := attS { s with proof := s.proof ++ [l.map numI] } l 0 s.clauses (s.learned ++ [s.cls.length])) (fun c hc => ?_) _ _ fun c hc => by cases hc; omega
    rw [ha.reason] at hc
    have := h c hc
    omega
theorem Rb.forget (h : Rb s) (l : List Nat) : Rb (forgetS s l) := h.of_eq (forget_ok s l).1.reason (forget_ok s l).1.len
theorem Rb.decide (h : Rb s) (ht : decideS s = some t) : Rb t := by
  unfold decideS at ht
  simp only at ht
  split at ht
  · cases ht
  · cases ht
    exact Rb.set (s := { s with ends := s.ends ++ [s.trail.length] }) h _ _ fun c hc => by cases hc
theorem UI.wlen (h : UI U D s P) (y : Nat) : (s.wa y).length ≤ s.cls.length := nodup_le' (h.wa.nd y) fun c hc => (h.wa.of y c hc).1
theorem ids_of (h : UI U D s P) (hw : Sw cs s conf u) (hr : Rb s) : Ids s := ⟨hw.ic, fun c hc => (hw.ln c hc).1, fun i c hc => (h.wa.of i c hc).1, hr⟩
end
end Go.Proofs.Ytcebafeaikipmaa.S15

namespace Go.Proofs.Ytcebafeaikipmaa.S15
section
variable {cs : List (List Int)} {n most : Nat} {k k' : Ct} {l : List Nat} {q : St} {c : Nat}
theorem round_opn (hq : (q, some c) = unitsS (k.st.vars + 1) k.st) (h : most < k.conf + 1) : roundS most k l = .inr (.opn (k.conf + 1)) := by
  unfold roundS
  rw [← hq]
  simp only
  rw [if_pos h]
theorem round_uns (hq : (q, some c) = unitsS (k.st.vars + 1) k.st) (h : ¬ most < k.conf + 1) (he : q.ends.length = 0) : roundS most k l = .inr (.unsat (q.proof ++ [[]]) (k.conf + 1)) := by
  unfold roundS
  rw [← hq]
  simp only
  rw [if_neg h, if_pos he]
def keptS (q : St) (c : Nat) : St := keepS (backS (learnS q c).1 (learnS q c).2.2) (learnS q c).2.1
theorem round_cf (hq : (q, some c) = unitsS (k.st.vars + 1) k.st) (h : ¬ most < k.conf + 1) (he : ¬ q.ends.length = 0) :
    roundS most k l = .inl { k with st := { keptS q c with step := (keptS q c).step + (keptS q c).step / 16 }, conf := k.conf + 1, left := k.left - 1 } := by
  unfold roundS
  rw [← hq]
  simp only
  rw [if_neg h, if_neg he]
  rfl
theorem round_sat (hq : (q, none) = unitsS (k.st.vars + 1) k.st) (hd : decideS (roomS (restS k q) l).st = none) : roundS most k l = .inr (.sat (truthsS (roomS (restS k q) l).st) (roomS (restS k q) l).conf) := by
  unfold roundS
  rw [← hq]
  simp only
  rw [hd]
theorem round_dec {t : St} (hq : (q, none) = unitsS (k.st.vars + 1) k.st) (hd : decideS (roomS (restS k q) l).st = some t) : roundS most k l = .inl { roomS (restS k q) l with st := t } := by
  unfold roundS
  rw [← hq]
  simp only
  rw [hd]
theorem Run.to_step (hk : ∀ a, Run most k a → Run most k' a) {k2 : Ct} (hl : l.Perm k.st.learned) (h : roundS most k l = .inl k2) : ∀ a, Run most k2 a → Run most k' a := fun a ha => hk a (Run.step l hl h ha)
theorem Run.to_stop (hk : ∀ a, Run most k a → Run most k' a) {a : SAns} (hl : l.Perm k.st.learned) (h : roundS most k l = .inr a) : Run most k' a := hk a (Run.stop l hl h)
/-- what a round leaves is a search again -/
theorem Ctv.next (hcs : ∀ C ∈ cs, ∀ m ∈ C, m ≠ 0 ∧ m.natAbs ≤ n) (h : Ctv cs n most k) (hl : l.Perm k.st.learned) (e : roundS most k l = .inl k') : Ctv cs n most k' ∧ muS n most k' < muS n most k := by
  have := h.round hcs hl
  rw [e] at this
  exact this
theorem restS_conf (k : Ct) (s : St) : (restS k s).conf = k.conf ∧ (restS k s).room = k.room := by unfold restS; split <;> exact ⟨rfl, rfl⟩
theorem restS_yes {s : St} (h : k.left ≤ 0) : restS k s = { k with st := backS s 0, rest := k.rest + k.rest / 2, left := ((k.rest + k.rest / 2 : Nat) : Int) } := if_pos h
theorem restS_no {s : St} (h : ¬ k.left ≤ 0) : restS k s = { k with st := s } := if_neg h
theorem roomS_yes (h : k.room < k.st.learned.length) : roomS k l = { k with st := forgetS k.st l, room := k.room + k.room / 4 } := if_pos h
theorem roomS_no (h : ¬ k.room < k.st.learned.length) : roomS k l = k := if_neg h
/-- ahead of the room for what was learned -/
theorem Ctv.rested (h : Ctv cs n most k) (hb : (q, none) = unitsS (k.st.vars + 1) k.st) :
    Sv cs (restS k q).st (restS k q).conf ∧ (restS k q).st.done = (restS k q).st.trail.length ∧ (restS k q).st.vars = n ∧ (restS k q).st.learned = k.st.learned := by
  obtain ⟨h1, h2, h3⟩ := h.sv.units
  rw [← hb] at h1 h2 h3
  obtain ⟨h1, h4⟩ := h1
  simp only at h1 h2 h3 h4
  have hv : q.vars = n := h2.vars.trans h.vars
  have hsv : Sv cs q k.conf := ⟨by show UI (Ud (cs ++ q.proof)) (Dd (cs ++ q.proof)) _ _; rw [h2.proof]; exact h1, h3⟩
  unfold restS
  split
  · obtain ⟨q1, q2⟩ := hsv.restart h4
    have hb := bk_back q 0
    exact ⟨q1, q2, hb.vars.trans hv, hb.learned.trans h2.learned⟩
  · exact ⟨hsv, h4, hv, h2.learned⟩
theorem Tr.elen {U : Nat → Prop} {s : St} (h : Tr U s) : s.ends.length ≤ s.trail.length :=
  nodup_le' (h.en.imp fun h => Nat.ne_of_lt h) fun e he => (h.el e he).1
theorem Tr.at0 {U : Nat → Prop} {s : St} (h : Tr U s) (h0 : 0 < s.ends.length) : s.ends.getD 0 0 < s.trail.length := by
  rw [List.getD_eq_getElem?_getD, List.getElem?_eq_getElem h0]
  exact (h.el _ (List.getElem_mem h0)).1
end
end Go.Proofs.Ytcebafeaikipmaa.S15
