/- The clauses of a question, taken one by one. Plain. / Where no more than 200 clauses are learned, a search comes to one end; what Solve finds. Plain. -/
import Derived.Test.YtcebafeaikipmaaZd
namespace Go.Proofs.Ytcebafeaikipmaa.S15

theorem nt_ofI (n : Int) (h : n ≠ 0) : ∃ m : Int, m = -n ∧ nt (ofI n) = ofI m := ⟨-n, rfl, by unfold nt ofI; split <;> split <;> split <;> omega⟩
theorem numI_ofI' (n : Int) : numI (ofI n) = n := numI_ofI
theorem plainF_spec (n : Nat) : ∀ (c : List Int) (l : List Nat), (∀ z ∈ c, z ≠ 0 ∧ z.natAbs ≤ n) → (∀ x ∈ l, okL n x) → l.Nodup →
    match plainF c l with
    | none => ∃ x, 2 ≤ x ∧ (x ∈ l ∨ numI x ∈ c) ∧ numI (nt x) ∈ c
    | some r => r.Nodup ∧ (∀ x ∈ r, okL n x) ∧ (∀ x, x ∈ r ↔ x ∈ l ∨ (2 ≤ x ∧ numI x ∈ c))
  | [], l, _, ho, hn => by
    unfold plainF
    exact ⟨hn, ho, fun x => by simp⟩
  | z :: c, l, hc, ho, hn => by
    have hz := hc z (by simp)
    have hzo : okL n (ofI z) := okL_ofI hz.1 hz.2
    have hc2 : ∀ y ∈ c, y ≠ 0 ∧ y.natAbs ≤ n := fun y hy => hc y (List.mem_cons_of_mem _ hy)
    unfold plainF
    by_cases h1 : nt (ofI z) ∈ l
    · rw [if_pos h1]
      exact ⟨nt (ofI z), (okL_nt hzo).1, .inl h1, by rw [nt_nt, numI_ofI]; simp⟩
    · rw [if_neg h1]
      by_cases h2 : ofI z ∈ l
      · rw [if_pos h2]
        have ih := plainF_spec n c l hc2 ho hn
        cases hp : plainF c l with
        | none =>
          rw [hp] at ih
          obtain ⟨x, x1, x2, x3⟩ := ih
          exact ⟨x, x1, x2.imp_right (List.mem_cons_of_mem _), List.mem_cons_of_mem _ x3⟩
        | some r =>
          rw [hp] at ih
          refine ⟨ih.1, ih.2.1, fun x => ?_⟩
          rw [ih.2.2 x]
          constructor
          · exact fun h => h.imp_right fun h => ⟨h.1, List.mem_cons_of_mem _ h.2⟩
          · rintro (h | ⟨h, h3⟩)
            · exact .inl h
            · rcases List.mem_cons.1 h3 with e | e
              · left; rw [show x = ofI z by rw [← e, ofI_numI h]]; exact h2
              · exact .inr ⟨h, e⟩
      · rw [if_neg h2]
        have ih := plainF_spec n c (l ++ [ofI z]) hc2 (fun x hx => by
          rcases List.mem_append.1 hx with h | h
          · exact ho x h
          · rw [List.mem_singleton.1 h]; exact hzo) (List.nodup_append.2 ⟨hn, by simp, fun a ha b hb e => by rw [List.mem_singleton] at hb; subst hb; subst e; exact h2 ha⟩)
        cases hp : plainF c (l ++ [ofI z]) with
        | none =>
          rw [hp] at ih
          obtain ⟨x, x1, x2, x3⟩ := ih
          refine ⟨x, x1, ?_, List.mem_cons_of_mem _ x3⟩
          rcases x2 with h | h
          · rcases List.mem_append.1 h with h | h
            · exact .inl h
            · right; rw [List.mem_singleton.1 h, numI_ofI]; simp
          · exact .inr (List.mem_cons_of_mem _ h)
        | some r =>
          rw [hp] at ih
          refine ⟨ih.1, ih.2.1, fun x => ?_⟩
          rw [ih.2.2 x, List.mem_append, List.mem_singleton]
          constructor
          · rintro ((h | h) | h)
            · exact .inl h
            · exact .inr ⟨by rw [h]; exact hzo.1, by rw [h, numI_ofI]; simp⟩
            · exact .inr ⟨h.1, List.mem_cons_of_mem _ h.2⟩
          · rintro (h | ⟨h, h3⟩)
            · exact .inl (.inl h)
            · rcases List.mem_cons.1 h3 with e | e
              · left; right; rw [← e, ofI_numI h]
              · exact .inr ⟨h, e⟩
/-- a solver that has taken the clauses dn of cs -/
structure Ad (cs dn : List (List Int)) (n : Nat) (s : St) : Prop where
  ui : UI (Ud cs) (Dd cs) s fun _ _ => False
  vars : s.vars = n
  pf : s.proof = []
  ln : s.learned = []
  en : s.ends = []
  d0 : s.done = 0
  sn : ∀ v, s.sn v = false
  av : Av s
  ic : ∀ c ∈ s.clauses, c < s.cls.length
  us : ∀ c, (s.cl c).used ≤ 0
  len : s.cls.length ≤ dn.length
  qs : ∀ C ∈ dn, Qc s C
  rb : Rb s
  cl : s.clauses.length ≤ dn.length
section
variable {cs dn : List (List Int)} {n : Nat} {s : St} {C : List Int}
theorem Ad.new (cs : List (List Int)) (hn : n ≤ 2000) : Ad cs [] n (newS n) :=
  ⟨new_ok _ _ hn, rfl, rfl, rfl, rfl, rfl, fun v => by unfold St.sn newS; simp only [List.getD_eq_getElem?_getD, List.getElem?_replicate]; split <;> rfl,
    ⟨fun a ha => by have := List.eq_of_mem_replicate (show a ∈ List.replicate (n + 1) 0 from ha); omega, by simp [newS]⟩, fun c hc => by simp [newS] at hc, fun c => by simp [newS, St.cl], by simp [newS], fun C hC => by simp at hC,
    fun c hc => (by have := List.eq_of_mem_replicate (show some c ∈ List.replicate (n + 1) none from hc); cases this), (by simp [newS])⟩
theorem Ad.sv (h : Ad cs cs n s) (hl : cs.length ≤ 16384) : Sv cs s 0 :=
  ⟨by show UI (Ud (cs ++ s.proof)) (Dd (cs ++ s.proof)) _ _; rw [h.pf, List.append_nil]; exact h.ui,
    ⟨h.sn, h.av, h.ic, by rw [h.ln]; simp, fun c => by have := h.us c; omega, by rw [h.ln]; simp, by rw [h.pf]; simp, by have := h.len; omega, by rw [h.pf]; intro i C hi; simp at hi, by rw [h.pf]; simp, h.qs⟩⟩
theorem Ad.lv0 (h : Ad cs dn n s) {x : Nat} (hx : x ∈ s.trail) : s.lv x = 0 := by
  obtain ⟨p, hp⟩ := List.mem_iff_getElem?.1 hx
  rw [h.ui.tr.le p x hp, h.en]; rfl
theorem Ad.skip (h : Ad cs dn n s) (hq : Qc s C) : Ad cs (dn ++ [C]) n s :=
  ⟨h.ui, h.vars, h.pf, h.ln, h.en, h.d0, h.sn, h.av, h.ic, h.us, by have := h.len; simp; omega, fun D hD => by
    rcases List.mem_append.1 hD with k | k
    · exact h.qs D k
    · rw [List.mem_singleton.1 k]; exact hq, h.rb, by have := h.cl; simp; omega⟩
theorem rup_nil {cs : List (List Int)} (h : ∀ Y, Clo cs Y → False) : RupAll cs [[]] := fun i C hi Y hY _ => by
  match i with
  | 0 => simp at hi; subst hi; exact h Y (by simpa using hY)
  | i + 1 => simp at hi
theorem Ad.add (h : Ad cs dn n s) (hC : C ∈ cs) (hc : ∀ z ∈ C, z ≠ 0 ∧ z.natAbs ≤ n) :
    if (addS s C).2 = true then Ad cs (dn ++ [C]) n (addS s C).1 else RupAll cs [[]] := by
  have hsp := plainF_spec n C [] hc (by simp) List.nodup_nil
  unfold addS
  cases hp : plainF C [] with
  | none =>
    rw [hp] at hsp
    obtain ⟨x, x1, x2, x3⟩ := hsp
    rw [if_pos rfl]
    exact h.skip (.inl ⟨x, x1, x2.resolve_left (by simp), x3⟩)
  | some l =>
    rw [hp] at hsp
    obtain ⟨l1, l2, l3⟩ := hsp
    have l3' : ∀ m, m ∈ C ↔ ∃ x ∈ l, numI x = m := fun m => by
      constructor
      · intro hm
        exact ⟨ofI m, (l3 _).2 (.inr ⟨(okL_ofI (hc m hm).1 (hc m hm).2).1, by rw [numI_ofI]; exact hm⟩), numI_ofI⟩
      · rintro ⟨x, hx, rfl⟩
        exact ((l3 x).1 hx).elim (by simp) fun k => k.2
    match l, l1, l2, l3' with
    | [], _, _, l3' =>
      rw [if_neg (by simp)]
      refine rup_nil fun Y hY => ?_
      obtain ⟨m, hm, -⟩ := hY.ne C hC
      obtain ⟨x, hx, -⟩ := (l3' m).1 hm
      simp at hx
    | [x], _, l2, l3' =>
      have hx := l2 x (by simp)
      rw [← h.vars] at hx
      have hu : Ud cs x := ⟨C, hC, fun m => by rw [l3' m]; simp [eq_comm]⟩
      have hxC : numI x ∈ C := (l3' _).2 ⟨x, by simp, rfl⟩
      by_cases h0 : s.val x = 0
      · have hse := h.ui.set (F := s.ends) (x := x) (b := none) hx h0 h.ui.tr.en (by rw [h.en]; simp) (fun p _ => rfl) (fun p k => k) (.inl ⟨h.en, hu⟩)
        obtain ⟨n1, n2⟩ := (h.ui.tr.val0 hx).1 h0
        have e : { s with ends := s.ends } = s := rfl
        rw [e] at hse
        simp only [if_pos h0]
        have hv1 : (setS s x none).val x = 1 := by
          refine (hse.1.tr.val1 hx).2 ?_
          show x ∈ s.trail ++ [x]
          simp
        rw [hv1]
        rw [if_pos (by rfl)]
        refine ⟨hse.1, h.vars, h.pf, h.ln, h.en, h.d0, h.sn, ⟨h.av.ac, h.av.st⟩, h.ic, h.us, by have := h.len; simp [setS]; omega, fun D hD => ?_, h.rb.set x none (fun c hc => by cases hc), by have := h.cl; simp [setS]; omega⟩
        rcases List.mem_append.1 hD with k | k
        · rcases h.qs D k with q | ⟨z, q1, q2, q3⟩ | q
          · exact .inl q
          · exact .inr (.inl ⟨z, List.mem_append_left _ q1, by rw [hse.2.1 z (.inl q1)]; exact q2, q3⟩)
          · exact .inr (.inr q)
        · rw [List.mem_singleton.1 k]
          exact .inr (.inl ⟨x, by show x ∈ s.trail ++ [x]; simp, by rw [hse.2.2, h.en]; rfl, hxC⟩)
      · simp only [if_neg h0]
        by_cases h1 : s.val x = 1
        · rw [h1, if_pos (by rfl)]
          have := (h.ui.tr.val1 hx).1 h1
          exact h.skip (.inr (.inl ⟨x, this, h.lv0 this, hxC⟩))
        · have hle := h.ui.tr.val_le hx
          have h2 : s.val x = 2 := by omega
          rw [h2, if_neg (by decide)]
          refine rup_nil fun Y hY => ?_
          have hn := (h.ui.tr.val2 hx).1 h2
          have hyc := h.ui.yc hY
          have y1 := hyc.z0 _ hn (h.lv0 hn)
          rw [numI_nt hx.1] at y1
          refine hY.co (numI x) (hY.un C hC _ hxC fun m hm hne => ?_) y1
          obtain ⟨y, hy, e⟩ := (l3' m).1 hm
          simp at hy
          subst hy
          exact (hne e.symm).elim
    | x :: y :: r, l1, l2, l3' =>
      rw [if_pos rfl]
      have hadd := h.ui.addC (l := x :: y :: r) (-1) (s.clauses ++ [s.cls.length]) s.learned (by simp) l1 (by rw [h.vars]; exact l2) ⟨C, hC, l3'⟩
      have ha := att_att s (x :: y :: r) (-1) (s.clauses ++ [s.cls.length]) s.learned
      have he : attachS { newC s (x :: y :: r) (-1) with clauses := s.clauses ++ [s.cls.length] } s.cls.length = attS s (x :: y :: r) (-1) (s.clauses ++ [s.cls.length]) s.learned := rfl
      show Ad cs (dn ++ [C]) n (attachS { newC s (x :: y :: r) (-1) with clauses := s.clauses ++ [s.cls.length] } s.cls.length)
      rw [he]
      obtain ⟨t, ht⟩ : ∃ t, t = attS s (x :: y :: r) (-1) (s.clauses ++ [s.cls.length]) s.learned := ⟨_, rfl⟩
      have htc : t.clauses = s.clauses ++ [s.cls.length] ∧ t.learned = s.learned ∧ t.cls = s.cls ++ [⟨x :: y :: r, -1, false⟩] ∧ t.act = s.act ∧ t.step = s.step ∧ t.seen = s.seen := by rw [ht, attS_eq]; exact ⟨rfl, rfl, rfl, rfl, rfl, rfl⟩
      rw [← ht] at hadd ha ⊢
      obtain ⟨t1, t2, t3, t4, t5, t6⟩ := htc
      have hcl : ∀ c, t.cl c = if c = s.cls.length then ⟨x :: y :: r, -1, false⟩ else s.cl c := fun c => by
        unfold St.cl
        rw [t3]
        simp only [List.getD_eq_getElem?_getD]
        rcases Nat.lt_trichotomy c s.cls.length with k | k | k
        · rw [List.getElem?_append_left k, if_neg (by omega)]
        · subst k; simp
        · rw [List.getElem?_eq_none (by simp; omega), if_neg (by omega), List.getElem?_eq_none (by omega)]
      have hlv : ∀ z, t.lv z = s.lv z := fun z => by unfold St.lv; rw [ha.level]
      refine ⟨⟨hadd.shp, hadd.lt, hadd.tr, hadd.wa, fun c hc hg a b hab hP hn => ?_⟩, ha.vars.trans h.vars, ha.proof.trans h.pf, t2.trans h.ln, ha.ends.trans h.en, ha.done.trans h.d0, fun v => by unfold St.sn; rw [t6]; exact h.sn v, ⟨by rw [t4]; exact h.av.ac, by rw [t5]; exact h.av.st⟩, fun c hc => ?_, fun c => ?_, ?_, fun D hD => ?_, fun c hc => ?_, ?_⟩
      · rw [ha.done, h.d0] at hn; simp at hn
      · rw [t1] at hc; rw [t3]
        rcases List.mem_append.1 hc with k | k
        · have := h.ic c k; simp; omega
        · rw [List.mem_singleton] at k; simp; omega
      · rw [hcl]; split
        · show (-1 : Int) ≤ 0; omega
        · exact h.us c
      · rw [t3]; have := h.len; simp; omega
      · rcases List.mem_append.1 hD with k | k
        · rcases h.qs D k with q | ⟨z, q1, q2, q3⟩ | ⟨c, q1, q2, q3, q4⟩
          · exact .inl q
          · exact .inr (.inl ⟨z, by rw [ha.trail]; exact q1, by rw [hlv]; exact q2, q3⟩)
          · refine .inr (.inr ⟨c, by rw [t3]; simp; omega, ?_⟩)
            rw [hcl, if_neg (by omega)]
            exact ⟨q2, q3, q4⟩
        · rw [List.mem_singleton.1 k]
          refine .inr (.inr ⟨s.cls.length, by rw [t3]; simp, ?_⟩)
          rw [hcl, if_pos rfl]
          exact ⟨rfl, rfl, fun z hz => (l3' _).2 ⟨z, hz, rfl⟩⟩
      · rw [ha.reason] at hc; rw [t3]; have := h.rb c hc; simp; omega
      · rw [t1]; have := h.cl; simp; omega
theorem addAll_ok : ∀ (r dn : List (List Int)) (s : St), Ad cs dn n s → (∀ C ∈ r, C ∈ cs) → (∀ C ∈ cs, ∀ z ∈ C, z ≠ 0 ∧ z.natAbs ≤ n) →
    if (addAll r s).2 = true then Ad cs (dn ++ r) n (addAll r s).1 else RupAll cs [[]]
  | [], dn, s, h, _, _ => by
    unfold addAll
    rw [if_pos rfl, List.append_nil]; exact h
  | C :: r, dn, s, h, hr, hc => by
    have h1 := h.add (hr C (by simp)) (hc C (hr C (by simp)))
    unfold addAll
    cases hq : addS s C with
    | mk t b =>
    rw [hq] at h1
    cases b with
    | true =>
      rw [if_pos rfl] at h1
      have := addAll_ok r (dn ++ [C]) t h1 (fun D hD => hr D (List.mem_cons_of_mem _ hD)) hc
      rw [List.append_assoc] at this
      exact this
    | false =>
      rw [if_neg (by simp)] at h1
      rw [if_neg (by simp)]; exact h1
theorem Ad.ctv (h : Ad cs cs n s) (hl : cs.length ≤ 16384) (most : Nat) : Ctv cs n most (startS s) :=
  ⟨h.sv hl, h.vars, Nat.zero_le _, Nat.le_refl _, Nat.le_refl _, Int.le_refl _, by simp [startS], by simp [startS]⟩
end
end Go.Proofs.Ytcebafeaikipmaa.S15

namespace Go.Proofs.Ytcebafeaikipmaa.S15
section
variable {cs : List (List Int)} {n most : Nat} {k k' : Ct} {l l' : List Nat}
theorem round_l (h : Ctv cs n most k) (hl : k.st.learned.length ≤ 200) : roundS most k l = roundS most k l' := by
  obtain ⟨q, hq⟩ : ∃ q, q = unitsS (k.st.vars + 1) k.st := ⟨_, rfl⟩
  obtain ⟨q1, q2⟩ := q
  cases q2 with
  | some c => rw [roundS_eq, roundS_eq, ← hq]
  | none =>
    have hr := h.rested hq
    have h1 := restS_conf k q1
    have e : ∀ m, roomS (restS k q1) m = restS k q1 := fun m => roomS_no (by rw [h1.2, hr.2.2.2]; have := h.room; omega)
    unfold roundS
    rw [← hq]
    simp only [e]
theorem runS_run (hcs : ∀ C ∈ cs, ∀ m ∈ C, m ≠ 0 ∧ m.natAbs ≤ n) {a a0 : SAns} : ∀ (f : Nat) (k : Ct), Ctv cs n most k → k.st.learned.length ≤ 200 → runS most f k = some a0 → Run most k a → a = a0
  | 0, _, _, _, h, _ => by simp [runS] at h
  | f + 1, k, hv, hl, h, r => by
    unfold runS at h
    cases r with
    | stop l hp e =>
      rw [round_l hv hl (l' := [])] at e
      rw [e] at h
      simpa using h
    | step l hp e r =>
      have hn := (hv.next hcs hp e).1
      rw [round_l hv hl (l' := [])] at e
      rw [e] at h
      simp only at h
      split at h
      · exact runS_run hcs f _ hn (by assumption) h r
      · cases h
theorem run_unique (hcs : ∀ C ∈ cs, ∀ m ∈ C, m ≠ 0 ∧ m.natAbs ≤ n) (hm : most ≤ 200) {a a2 : SAns} (h : Ctv cs n most k) (r : Run most k a) (r2 : Run most k a2) : a = a2 := by
  have hl : ∀ k, Ctv cs n most k → k.st.learned.length ≤ 200 := fun k h => by have := h.sv.sw.b1; have := h.le; omega
  induction r with
  | stop l hp e =>
    cases r2 with
    | stop l2 hp2 e2 => rw [round_l h (hl _ h) (l' := l2), e2] at e; cases e; rfl
    | step l2 hp2 e2 r2 => rw [round_l h (hl _ h) (l' := l2), e2] at e; cases e
  | step l hp e r ih =>
    cases r2 with
    | stop l2 hp2 e2 => rw [round_l h (hl _ h) (l' := l2), e2] at e; cases e
    | step l2 hp2 e2 r2 =>
      have hn := (h.next hcs hp e).1
      rw [round_l h (hl _ h) (l' := l2), e2] at e
      cases e
      exact ih hn r2
end
/-- what a call of Solve finds -/
def SolveR (cs : List (List Int)) (n most : Nat) (a : SAns) : Prop :=
  if (addAll cs (newS n)).2 = true then Run most (startS (addAll cs (newS n)).1) a else a = .unsat [[]] 0
section
variable {cs : List (List Int)} {n most : Nat} {a a2 : SAns}
theorem SolveR.ok (hcs : ∀ C ∈ cs, ∀ m ∈ C, m ≠ 0 ∧ m.natAbs ≤ n) (hn : n ≤ 2000) (hl : cs.length ≤ 16384) (h : SolveR cs n most a) : AnsOk cs n most a := by
  have h0 := addAll_ok cs [] (newS n) (Ad.new cs hn) (fun _ h => h) hcs
  unfold SolveR at h
  by_cases e : (addAll cs (newS n)).2 = true
  · rw [if_pos e] at h h0
    rw [List.nil_append] at h0
    exact h.ok hcs (h0.ctv hl most)
  · rw [if_neg e] at h h0
    rw [h]
    exact ⟨Nat.zero_le _, [], rfl, h0, by simp⟩
theorem SolveR.unique (hcs : ∀ C ∈ cs, ∀ m ∈ C, m ≠ 0 ∧ m.natAbs ≤ n) (hn : n ≤ 2000) (hl : cs.length ≤ 16384) (hm : most ≤ 200) (h : SolveR cs n most a) (h2 : SolveR cs n most a2) : a = a2 := by
  have h0 := addAll_ok cs [] (newS n) (Ad.new cs hn) (fun _ h => h) hcs
  unfold SolveR at h h2
  by_cases e : (addAll cs (newS n)).2 = true
  · rw [if_pos e] at h h2 h0
    rw [List.nil_append] at h0
    exact run_unique hcs hm (h0.ctv hl most) h h2
  · rw [if_neg e] at h h2
    rw [h, h2]
theorem SolveR.eq (hcs : ∀ C ∈ cs, ∀ m ∈ C, m ≠ 0 ∧ m.natAbs ≤ n) (hn : n ≤ 2000) (hl : cs.length ≤ 16384) {f : Nat} (hs : solveS n cs most f = some a2) (h : SolveR cs n most a) : a = a2 := by
  have h0 := addAll_ok cs [] (newS n) (Ad.new cs hn) (fun _ h => h) hcs
  unfold SolveR at h
  unfold solveS at hs
  cases hq : addAll cs (newS n) with
  | mk s b =>
  rw [hq] at h hs h0
  cases b with
  | true =>
    rw [if_pos rfl] at h h0
    rw [List.nil_append] at h0
    exact runS_run hcs f _ (h0.ctv hl most) (by show s.learned.length ≤ 200; rw [h0.ln]; simp) hs h
  | false =>
    rw [if_neg (by simp)] at h
    simp at hs
    rw [h, hs]
end
end Go.Proofs.Ytcebafeaikipmaa.S15
