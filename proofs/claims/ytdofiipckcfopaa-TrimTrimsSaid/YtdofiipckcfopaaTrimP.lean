/- What is left of a question: of it nothing more is left out, and it has truths just if the question has. Plain law. -/
import Derived.Test.YtdofiipckcfopaaTrimL
import Derived.Test.YtdofiipckcfopaaFnGrow
namespace Go.Proofs.Ytdofiipckcfopaa
open Go.RowKit

theorem satMay_of {n : Nat} {C : Cls} (hn : n ≤ 1024) (hl : C.length ≤ 16384) (hok : clsOk n C) : satMayN (n : Int) C = 0 := by
  have h2 : C.any (fun c => decide (2048 < c.length)) = false := by
    rw [List.any_eq_false]; intro c hc; have := (hok c hc).1; simpa using this
  have h4 : C.any (fun c => c.any (badLit (n : Int))) = false := by
    rw [List.any_eq_false]; intro c hc
    have : c.any (badLit (n : Int)) = false := by
      rw [List.any_eq_false]; intro x hx
      obtain ⟨a, b, d⟩ := (hok c hc).2 x hx
      simp [badLit, a]; omega
    simp [this]
  unfold satMayN
  rw [if_neg (by omega), h2, h4]
  simp
theorem Steps.end_ {n : Nat} {s t : TrS} (h : Steps n s t) : t = s ∨ t.E = false ∨ t.C = [[]] := by
  induction h with
  | refl => exact .inl rfl
  | head h1 h2 _ ih =>
    rcases ih with rfl | h | h
    · cases hw : way_of h2 with
      | twice => exact .inr (.inl h1)
      | always => exact .inr (.inl h1)
      | empty => exact .inr (.inr rfl)
      | unit => exact .inr (.inl h1)
      | pure => exact .inr (.inl h1)
      | cover => exact .inr (.inl h1)
    · exact .inr (.inl h)
    · exact .inr (.inr h)
theorem stepS_none {n : Nat} {s : TrS} (h : stepS n s = none) : twiceC s.C = none ∧ alwaysC s.C = none ∧ emptyB s.C = false ∧ unitC s.C = none ∧ pureC n s.C = none ∧ coverC s.C = none := by
  unfold stepS at h
  split at h
  · cases h
  next h1 =>
  split at h
  · cases h
  next h2 =>
  split at h
  · cases h
  next h3 =>
  split at h
  · cases h
  next h4 =>
  split at h
  · cases h
  next h5 =>
  split at h
  · cases h
  next h6 => exact ⟨h1, h2, by simpa using h3, h4, h5, h6⟩
theorem stepS_none_of {n : Nat} {s : TrS} (h : twiceC s.C = none ∧ alwaysC s.C = none ∧ emptyB s.C = false ∧ unitC s.C = none ∧ pureC n s.C = none ∧ coverC s.C = none) : stepS n s = none := by
  obtain ⟨h1, h2, h3, h4, h5, h6⟩ := h
  unfold stepS
  rw [h1, h2, h3, h4, h5, h6]
  rfl
/-- Nothing more is left out. -/
structure Ended (n : Nat) (C : Cls) (t : TrS) : Prop where
  may : satMayN (n : Int) t.C = 0
  again : ∀ u, RunTo n (startS t.C) u → u.C = t.C ∧ u.F = []
  less : t.C.length ≤ C.length
  one : ∀ i (h : i < t.C.length), t.C[i].length ≠ 1 ∧ (t.C[i].length = 0 → t.C.length = 1)
  apart : ∀ i j (hi : i < t.C.length) (hj : j < i), t.C[i] ≠ t.C[j]
theorem ended {n : Nat} {C : Cls} {t : TrS} (hn : n ≤ 1024) (hl : C.length ≤ 16384) (hok : clsOk n C) (h : RunTo n (startS C) t) : Ended n C t := by
  obtain ⟨hs, hst⟩ := h
  obtain ⟨h1, h2, h3⟩ := hs.ok (startOk hok)
  have hmay := satMay_of hn (by omega : t.C.length ≤ 16384) h1
  have hE : t.E = true → t.C = [[]] := by
    intro he
    rcases hs.end_ with rfl | h | h
    · simp [startS] at he
    · rw [h] at he; cases he
    · exact h
  rcases hst with he | hst
  · have hC := hE he
    refine ⟨hmay, fun u hu => ?_, by omega, fun i hi => ?_, fun i j hi hj => ?_⟩
    · have : u = ⟨[[]], [], [], true⟩ := by
        rw [hC] at hu
        refine hu.unique ⟨.head rfl ?_ (.refl _), .inl rfl⟩
        rfl
      subst this
      exact ⟨hC.symm, rfl⟩
    · have hi0 : i = 0 := by rw [hC] at hi; simpa using hi
      subst hi0
      simp [hC]
    · rw [hC] at hi; simp at hi; omega
  · have hx := stepS_none hst
    refine ⟨hmay, fun u hu => ?_, by omega, fun i hi => ⟨fun e => ?_, fun e => ?_⟩, fun i j hi hj e => ?_⟩
    · have := hu.unique (u := startS t.C) ⟨.refl _, .inr (stepS_none_of hx)⟩
      subst this
      exact ⟨rfl, rfl⟩
    · have := firstN_none hx.2.2.2.1 i hi
      simp [unAt, atC_eq hi, e] at this
    · have := hx.2.2.1
      have h4 : emptyB t.C = true := emptyB_iff.2 (by have := List.getElem_mem hi; rwa [List.length_eq_zero_iff.1 e] at this)
      rw [this] at h4; cases h4
    · have := firstN_none (firstN_none hx.2.2.2.2.2 j (by omega)) i hi
      have hcv : cvB t.C j i = true := by
        rw [cvB_iff, atC_eq hi, atC_eq (by omega : j < t.C.length), e]
        exact ⟨by omega, Nat.le_refl _, by omega, by unfold withinB; rw [List.all_eq_true]; intro x hx; exact hasB_iff.2 hx⟩
      rw [hcv] at this
      simp at this

/-! ### Truths -/
theorem litTrue_not {o : List Bool} {m : Int} (hm : m ≠ 0) : litTrue o (-m) = !litTrue o m := by
  unfold litTrue
  rcases Int.lt_or_lt_of_ne hm with h | h
  · rw [if_pos (by omega), if_neg (by omega), if_pos h]; simp
  · rw [if_neg (by omega), if_pos (by omega), if_pos h]; simp
theorem litTrue_set {o : List Bool} {x : Int} (h1 : 1 ≤ x.natAbs) (h2 : x.natAbs ≤ o.length) : litTrue (setT o x) x = true := by
  have e : setT o x = o.set (x.natAbs - 1) (decide (0 < x)) := by unfold setT; rw [if_pos ⟨h1, h2⟩]
  rw [e]
  unfold litTrue
  by_cases h : 0 < x
  · rw [if_pos h, show x.toNat - 1 = x.natAbs - 1 by omega, List.getD, List.getElem?_set_self (by omega)]; simp [h]
  · rw [if_neg h, if_pos (by omega), show (-x).toNat - 1 = x.natAbs - 1 by omega, List.getD, List.getElem?_set_self (by omega)]; simp; omega
theorem litTrue_other {o : List Bool} {x m : Int} (hm : m ≠ 0) (h : m.natAbs ≠ x.natAbs) : litTrue (setT o x) m = litTrue o m := by
  unfold setT
  split
  · unfold litTrue
    rcases Int.lt_or_lt_of_ne hm with h1 | h1
    · rw [if_neg (by omega), if_pos h1, if_neg (by omega), if_pos h1, List.getD, List.getElem?_set_ne (by omega)]; rfl
    · rw [if_pos h1, if_pos h1, List.getD, List.getElem?_set_ne (by omega)]; rfl
  · rfl
theorem setT_comm {o : List Bool} {x y : Int} (h : x.natAbs ≠ y.natAbs) : setT (setT o x) y = setT (setT o y) x := by
  unfold setT
  by_cases hx : 1 ≤ x.natAbs ∧ x.natAbs ≤ o.length
  · by_cases hy : 1 ≤ y.natAbs ∧ y.natAbs ≤ o.length
    · rw [if_pos hx, if_pos hy, if_pos (by simpa using hy), if_pos (by simpa using hx)]
      exact List.set_comm _ _ (by omega)
    · rw [if_pos hx, if_neg hy, if_pos hx, if_neg (by simpa using hy)]
  · by_cases hy : 1 ≤ y.natAbs ∧ y.natAbs ≤ o.length
    · rw [if_neg hx, if_pos hy, if_neg (by simpa using hx)]
    · rw [if_neg hx, if_neg hy, if_neg hx]
theorem foldT_comm {x : Int} : ∀ (F : List Int) (o : List Bool), (∀ f ∈ F, f.natAbs ≠ x.natAbs) → F.foldl setT (setT o x) = setT (F.foldl setT o) x
  | [], _, _ => rfl
  | f :: F, o, h => by
    rw [List.foldl_cons, List.foldl_cons, setT_comm (fun e => h f (by simp) e.symm), foldT_comm F _ fun g hg => h g (by simp [hg])]
def satC (C : Cls) (o : List Bool) : Bool := C.all (clauseTrue o)
theorem satC_iff {C : Cls} {o : List Bool} : satC C o = true ↔ ∀ c ∈ C, clauseTrue o c = true := by unfold satC; exact List.all_eq_true
theorem clauseTrue_iff {o : List Bool} {c : List Int} : clauseTrue o c = true ↔ ∃ m ∈ c, litTrue o m = true := by unfold clauseTrue; exact List.any_eq_true
theorem dup_mem {c : List Int} {k : Nat} (h : dupK c = some k) (x : Int) : x ∈ c.eraseIdx k ↔ x ∈ c := by
  obtain ⟨hk, hm⟩ := dupK_some h
  constructor
  · exact List.mem_of_mem_eraseIdx
  · intro hx
    obtain ⟨i, hi, rfl⟩ := List.getElem_of_mem hx
    by_cases e : i = k
    · subst e
      rw [getD_at hk] at hm
      obtain ⟨j, hj, he⟩ := List.mem_take_iff_getElem.1 hm
      rw [← he]
      exact List.mem_eraseIdx_iff_getElem.2 ⟨j, by omega, by omega, rfl⟩
    · exact List.mem_eraseIdx_iff_getElem.2 ⟨i, hi, e, rfl⟩
theorem satC_set {C : Cls} {i : Nat} {c : List Int} {o : List Bool} (hi : i < C.length) (h : clauseTrue o c = clauseTrue o (atC C i)) : satC (C.set i c) o = satC C o := by
  rw [atC_eq hi] at h
  rw [Bool.eq_iff_iff, satC_iff, satC_iff]
  constructor
  · intro hs d hd
    obtain ⟨j, hj, rfl⟩ := List.getElem_of_mem hd
    by_cases e : i = j
    · subst e
      rw [← h]
      exact hs c (List.mem_iff_getElem.2 ⟨i, by simpa using hj, by simp⟩)
    · exact hs _ (List.mem_iff_getElem.2 ⟨j, by simpa using hj, by simp [e]⟩)
  · intro hs d hd
    rcases List.mem_or_eq_of_mem_set hd with hd | rfl
    · exact hs d hd
    · rw [h]; exact hs _ (List.getElem_mem hi)
theorem satC_erase {C : Cls} {i : Nat} {o : List Bool} (hi : i < C.length) : satC C o = true ↔ satC (C.eraseIdx i) o = true ∧ clauseTrue o (atC C i) = true := by
  rw [satC_iff, satC_iff, atC_eq hi]
  constructor
  · intro h; exact ⟨fun c hc => h c (List.mem_of_mem_eraseIdx hc), h _ (List.getElem_mem hi)⟩
  · rintro ⟨h1, h2⟩ c hc
    obtain ⟨j, hj, rfl⟩ := List.getElem_of_mem hc
    by_cases e : j = i
    · subst e; exact h2
    · exact h1 _ (List.mem_eraseIdx_iff_getElem.2 ⟨j, hj, e, rfl⟩)
theorem always_true {vars : Nat} {c : List Int} {o : List Bool} (hok : clOk vars c) (h : alwaysB c = true) : clauseTrue o c = true := by
  unfold alwaysB at h
  obtain ⟨m, hm, hn⟩ := List.any_eq_true.1 h
  rw [hasB_iff] at hn
  rw [clauseTrue_iff]
  cases hl : litTrue o m with
  | true => exact ⟨m, hm, hl⟩
  | false => exact ⟨-m, hn, by rw [litTrue_not (hok.2 m hm).1, hl]; rfl⟩
theorem cover_true {C : Cls} {i k : Nat} {o : List Bool} (hi : i < C.length) (h : cvB C i k = true) (hs : satC (C.eraseIdx k) o = true) : clauseTrue o (atC C k) = true := by
  obtain ⟨h1, _, _, h4⟩ := cvB_iff.1 h
  have := satC_iff.1 hs (atC C i) (by rw [atC_eq hi]; exact List.mem_eraseIdx_iff_getElem.2 ⟨i, hi, h1, rfl⟩)
  obtain ⟨m, hm, hl⟩ := clauseTrue_iff.1 this
  exact clauseTrue_iff.2 ⟨m, hasB_iff.1 (List.all_eq_true.1 h4 m hm), hl⟩
theorem mem_fix {C : Cls} {n : Int} {d : List Int} : d ∈ fixC C n ↔ ∃ c ∈ C, n ∉ c ∧ d = c.filter fun k => !(k == -n) := by
  simp only [fixC, List.mem_map, List.mem_filter, Bool.not_eq_true']
  constructor
  · rintro ⟨c, ⟨hc, hn⟩, rfl⟩
    exact ⟨c, hc, (fun h => by rw [hasB_iff.2 h] at hn; cases hn), rfl⟩
  · rintro ⟨c, hc, hn, rfl⟩
    refine ⟨c, ⟨hc, ?_⟩, rfl⟩
    cases h : hasB c n with
    | false => rfl
    | true => exact absurd (hasB_iff.1 h) hn
theorem Way.okC {vars : Nat} {s t : TrS} (h : Way vars s t) (h1 : clsOk vars s.C) : clsOk vars t.C := by
  cases h with
  | twice i k g1 g2 =>
    intro c hc
    rcases List.mem_or_eq_of_mem_set hc with hc | rfl
    · exact h1 c hc
    · obtain ⟨a, b⟩ := h1 _ (atC_mem g1)
      exact ⟨Nat.le_trans (List.length_eraseIdx_le _ _) a, fun x hx => b x (List.mem_of_mem_eraseIdx hx)⟩
  | always i g1 g2 => exact fun c hc => h1 c (List.mem_of_mem_eraseIdx hc)
  | empty g1 => intro c hc; simp at hc; subst hc; exact h1 _ g1
  | unit n g1 => exact clsOk_fix h1
  | pure n g1 g2 g3 => exact clsOk_fix h1
  | cover i k g1 g2 g3 => exact fun c hc => h1 c (List.mem_of_mem_eraseIdx hc)
/-- What makes the clauses true makes true what is left of them. -/
theorem Way.keeps {vars : Nat} {s t : TrS} (h : Way vars s t) (hok : clsOk vars s.C) {o : List Bool} (hs : satC s.C o = true) : satC t.C o = true := by
  cases h with
  | twice i k h1 h2 =>
    rw [satC_set h1]
    · exact hs
    · rw [Bool.eq_iff_iff, clauseTrue_iff, clauseTrue_iff]
      exact ⟨fun ⟨m, hm, hl⟩ => ⟨m, (dup_mem h2 m).1 hm, hl⟩, fun ⟨m, hm, hl⟩ => ⟨m, (dup_mem h2 m).2 hm, hl⟩⟩
  | always i h1 h2 => exact ((satC_erase h1).1 hs).1
  | empty h1 => have := satC_iff.1 hs _ h1; simp [clauseTrue] at this
  | unit n h1 =>
    have hn := satC_iff.1 hs _ h1
    simp only [clauseTrue, List.any_cons, List.any_nil, Bool.or_false] at hn
    have hn0 : n ≠ 0 := ((hok _ h1).2 n (by simp)).1
    rw [satC_iff]
    intro d hd
    obtain ⟨c, hc, hnc, rfl⟩ := mem_fix.1 hd
    obtain ⟨m, hm, hl⟩ := clauseTrue_iff.1 (satC_iff.1 hs c hc)
    refine clauseTrue_iff.2 ⟨m, List.mem_filter.2 ⟨hm, ?_⟩, hl⟩
    simp
    rintro rfl
    rw [litTrue_not hn0, hn] at hl
    cases hl
  | pure n h1 h2 h3 =>
    rw [satC_iff]
    intro d hd
    obtain ⟨c, hc, hnc, rfl⟩ := mem_fix.1 hd
    obtain ⟨m, hm, hl⟩ := clauseTrue_iff.1 (satC_iff.1 hs c hc)
    refine clauseTrue_iff.2 ⟨m, List.mem_filter.2 ⟨hm, ?_⟩, hl⟩
    simp
    rintro rfl
    have : posB s.C (-n) = true := posB_iff.2 ⟨c, hc, hm⟩
    rw [this] at h3; cases h3
  | cover i k h1 h2 h3 => exact ((satC_erase h2).1 hs).1
/-- Truths of what is left, and what was fixed, make the question true. -/
structure Grows (vars : Nat) (C0 : Cls) (s : TrS) : Prop where
  ok : clsOk vars s.C
  lits : ∀ f ∈ s.F, litOk vars f
  apart : ∀ f ∈ s.F, ∀ c ∈ s.C, ∀ m ∈ c, f.natAbs ≠ m.natAbs
  back : ∀ o : List Bool, o.length = vars → satC s.C o = true → satC C0 (s.F.foldl setT o) = true
theorem grows_fix {vars : Nat} {C0 : Cls} {s : TrS} {n : Int} {U : List Int} (h : Grows vars C0 s) (hn : litOk vars n) (hp : posB s.C n = true) : Grows vars C0 { fixS s n with U := U } := by
  obtain ⟨c0, hc0, hm0⟩ := posB_iff.1 hp
  refine ⟨clsOk_fix h.ok, fun f hf => ?_, fun f hf d hd m hm => ?_, fun o ho hs => ?_⟩
  · rcases List.mem_append.1 hf with hf | hf
    · exact h.lits f hf
    · simp at hf; subst hf; exact hn
  · obtain ⟨c, hc, hnc, rfl⟩ := mem_fix.1 hd
    obtain ⟨hmc, hmn⟩ := List.mem_filter.1 hm
    rcases List.mem_append.1 hf with hf | hf
    · exact h.apart f hf c hc m hmc
    · simp at hf; subst hf
      simp at hmn
      intro e
      have : m = f ∨ m = -f := by omega
      rcases this with rfl | rfl
      · exact hnc hmc
      · exact hmn rfl
  · show satC C0 ((s.F ++ [n]).foldl setT o) = true
    rw [List.foldl_append]
    show satC C0 (setT (s.F.foldl setT o) n) = true
    rw [← foldT_comm s.F o fun f hf => h.apart f hf c0 hc0 n hm0]
    obtain ⟨hn0, hn1, hn2⟩ := hn
    refine h.back _ (by rw [setT_length]; exact ho) (satC_iff.2 fun c hc => ?_)
    by_cases hnc : n ∈ c
    · exact clauseTrue_iff.2 ⟨n, hnc, litTrue_set (by omega) (by omega)⟩
    · obtain ⟨m, hm, hl⟩ := clauseTrue_iff.1 (satC_iff.1 hs _ (mem_fix.2 ⟨c, hc, hnc, rfl⟩))
      obtain ⟨hmc, hmn⟩ := List.mem_filter.1 hm
      simp at hmn
      have hm0 := ((h.ok c hc).2 m hmc).1
      refine clauseTrue_iff.2 ⟨m, hmc, ?_⟩
      rw [litTrue_other hm0]
      · exact hl
      · intro e
        have : m = n ∨ m = -n := by omega
        rcases this with rfl | rfl
        · exact hnc hmc
        · exact hmn rfl
theorem Way.grows {vars : Nat} {C0 : Cls} {s t : TrS} (h : Way vars s t) (hs : Grows vars C0 s) : Grows vars C0 t := by
  have hok := h.okC hs.ok
  cases h with
  | twice i k h1 h2 =>
    refine ⟨hok, hs.lits, fun f hf c hc m hm => ?_, fun o ho hh => hs.back o ho ?_⟩
    · rcases List.mem_or_eq_of_mem_set hc with hc | rfl
      · exact hs.apart f hf c hc m hm
      · exact hs.apart f hf _ (atC_mem h1) m (List.mem_of_mem_eraseIdx hm)
    · rw [← hh]
      refine (satC_set h1 ?_).symm
      rw [Bool.eq_iff_iff, clauseTrue_iff, clauseTrue_iff]
      exact ⟨fun ⟨m, hm, hl⟩ => ⟨m, (dup_mem h2 m).1 hm, hl⟩, fun ⟨m, hm, hl⟩ => ⟨m, (dup_mem h2 m).2 hm, hl⟩⟩
  | always i h1 h2 => exact ⟨hok, hs.lits, fun f hf c hc => hs.apart f hf c (List.mem_of_mem_eraseIdx hc), fun o ho hh => hs.back o ho ((satC_erase h1).2 ⟨hh, always_true (hs.ok _ (atC_mem h1)) h2⟩)⟩
  | empty h1 => exact ⟨hok, hs.lits, fun f hf c hc m hm => by simp at hc; subst hc; simp at hm, fun o ho hh => by simp [satC, clauseTrue] at hh⟩
  | unit n h1 => exact grows_fix hs ((hs.ok _ h1).2 n (by simp)) (posB_iff.2 ⟨_, h1, by simp⟩)
  | pure n h1 h2 h3 =>
    obtain ⟨c, hc, hm⟩ := posB_iff.1 h2
    exact grows_fix (U := s.U) hs ((hs.ok c hc).2 n hm) h2
  | cover i k h1 h2 h3 => exact ⟨hok, hs.lits, fun f hf c hc => hs.apart f hf c (List.mem_of_mem_eraseIdx hc), fun o ho hh => hs.back o ho ((satC_erase h2).2 ⟨hh, cover_true h1 h3 hh⟩)⟩
theorem Steps.grows {vars : Nat} {C0 : Cls} {s t : TrS} (h : Steps vars s t) (hs : Grows vars C0 s) : Grows vars C0 t ∧ ∀ o, satC s.C o = true → satC t.C o = true := by
  induction h with
  | refl => exact ⟨hs, fun _ h => h⟩
  | head h1 h2 _ ih =>
    obtain ⟨a, b⟩ := ih ((way_of h2).grows hs)
    exact ⟨a, fun o ho => b o ((way_of h2).keeps hs.ok ho)⟩
theorem run_grows {n : Nat} {C : Cls} {t : TrS} (hok : clsOk n C) (h : RunTo n (startS C) t) : Grows n C t ∧ ∀ o, satC C o = true → satC t.C o = true :=
  h.1.grows ⟨hok, fun f hf => by simp [startS] at hf, fun f hf => by simp [startS] at hf, fun o _ hs => hs⟩
end Go.Proofs.Ytdofiipckcfopaa
