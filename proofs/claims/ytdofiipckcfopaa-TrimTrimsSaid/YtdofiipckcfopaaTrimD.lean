/- How clauses are made fewer, step by step: plain law. -/
import Derived.Test.YtdofiipckcfopaaPlain
namespace Go.Proofs.Ytdofiipckcfopaa
open Go.RowKit

abbrev Cls := List (List Int)
def atC (C : Cls) (i : Nat) : List Int := C.getD i []
theorem atC_eq {C : Cls} {i : Nat} (h : i < C.length) : atC C i = C[i] := getD_at h
/-- The place of a second one of a literal. -/
def dupAt (c : List Int) (k : Nat) : Option Nat := if hasB (c.take k) (c.getD k 0) then some k else none
def dupK (c : List Int) : Option Nat := firstN (dupAt c) c.length
def twAt (C : Cls) (i : Nat) : Option Cls := match dupK (atC C i) with | some k => some (C.set i ((atC C i).eraseIdx k)) | none => none
def twiceC (C : Cls) : Option Cls := firstN (twAt C) C.length
def alwaysB (c : List Int) : Bool := c.any fun n => hasB c (-n)
def alAt (C : Cls) (i : Nat) : Option Cls := if alwaysB (atC C i) then some (C.eraseIdx i) else none
def alwaysC (C : Cls) : Option Cls := firstN (alAt C) C.length
def emptyB (C : Cls) : Bool := C.any fun c => decide (c.length = 0)
def fixC (C : Cls) (n : Int) : Cls := (C.filter fun c => !hasB c n).map fun c => c.filter fun k => !(k == -n)
def unAt (C : Cls) (i : Nat) : Option Int := if (atC C i).length = 1 then some ((atC C i).getD 0 0) else none
def unitC (C : Cls) : Option Int := firstN (unAt C) C.length
def posB (C : Cls) (v : Int) : Bool := C.any fun c => hasB c v
def puAt (C : Cls) (v : Nat) : Option Int := if posB C v && !posB C (-v) then some v else if posB C (-v) && !posB C v then some (-v) else none
def pureC (vars : Nat) (C : Cls) : Option Int := firstN (puAt C) (vars + 1)
def withinB (a b : List Int) : Bool := a.all (hasB b)
/-- Clause k goes, because of clause i. -/
def cvB (C : Cls) (i k : Nat) : Bool := !(decide (i = k) || decide ((atC C k).length < (atC C i).length) || (decide ((atC C i).length = (atC C k).length) && decide (k < i)) || !withinB (atC C i) (atC C k))
def covAt (C : Cls) (i : Nat) : Option Cls := firstN (fun k => if cvB C i k then some (C.eraseIdx k) else none) C.length
def coverC (C : Cls) : Option Cls := firstN (covAt C) C.length

structure TrS where
  C : Cls
  F : List Int
  U : List Int
  E : Bool
def fixS (s : TrS) (n : Int) : TrS := { s with F := s.F ++ [n], C := fixC s.C n }
def stepS (vars : Nat) (s : TrS) : Option TrS :=
  match twiceC s.C with
  | some C => some { s with C := C }
  | none => match alwaysC s.C with
    | some C => some { s with C := C }
    | none => if emptyB s.C then some { s with C := [[]], E := true } else
      match unitC s.C with
      | some n => some { fixS s n with U := s.U ++ [n] }
      | none => match pureC vars s.C with
        | some n => some (fixS s n)
        | none => match coverC s.C with
          | some C => some { s with C := C }
          | none => none
/-- What comes of steps. -/
inductive Steps (vars : Nat) : TrS → TrS → Prop
  | refl (s : TrS) : Steps vars s s
  | head {s a t : TrS} : s.E = false → stepS vars s = some a → Steps vars a t → Steps vars s t
def Stop (vars : Nat) (s : TrS) : Prop := s.E = true ∨ stepS vars s = none
def RunTo (vars : Nat) (s t : TrS) : Prop := Steps vars s t ∧ Stop vars t
theorem Steps.snoc {vars : Nat} {s a b : TrS} (h : Steps vars s a) (h1 : a.E = false) (h2 : stepS vars a = some b) : Steps vars s b := by
  induction h with
  | refl s => exact .head h1 h2 (.refl _)
  | head g1 g2 _ ih => exact .head g1 g2 (ih h1 h2)
theorem RunTo.unique {vars : Nat} {s t u : TrS} (h : RunTo vars s t) (k : RunTo vars s u) : t = u := by
  obtain ⟨h, ht⟩ := h
  obtain ⟨k, hu⟩ := k
  induction h with
  | refl s =>
    cases k with
    | refl => rfl
    | head g1 g2 _ =>
      rcases ht with e | e
      · rw [e] at g1; cases g1
      · rw [e] at g2; cases g2
  | head h1 h2 _ ih =>
    cases k with
    | refl =>
      rcases hu with e | e
      · rw [e] at h1; cases h1
      · rw [e] at h2; cases h2
    | head g1 g2 k => rw [h2] at g2; cases g2; exact ih ht k

/-! ### Sizes -/
def litOk (vars : Nat) (n : Int) : Prop := n ≠ 0 ∧ -(vars : Int) ≤ n ∧ n ≤ vars
def clOk (vars : Nat) (c : List Int) : Prop := c.length ≤ 2048 ∧ ∀ x ∈ c, litOk vars x
def clsOk (vars : Nat) (C : Cls) : Prop := ∀ c ∈ C, clOk vars c
def TrOk (vars n0 : Nat) (s : TrS) : Prop := clsOk vars s.C ∧ s.F.length + s.C.length ≤ n0 ∧ s.U.length ≤ s.F.length
def sizeC (C : Cls) : Nat := (C.map fun c => c.length + 1).sum
def sizeS (s : TrS) : Nat := sizeC s.C + if s.E then 0 else 1
theorem atC_mem {C : Cls} {i : Nat} (h : i < C.length) : atC C i ∈ C := by rw [atC_eq h]; exact List.getElem_mem h
theorem atC_ge {C : Cls} {i : Nat} (h : C.length ≤ i) : atC C i = [] := by simp [atC, List.getD, h]
theorem dupK_some {c : List Int} {k : Nat} (h : dupK c = some k) : k < c.length ∧ c.getD k 0 ∈ c.take k := by
  obtain ⟨j, hj, h1, _⟩ := firstN_some h
  unfold dupAt at h1
  split at h1
  · next hb => cases h1; exact ⟨hj, hasB_iff.1 hb⟩
  · cases h1
theorem twiceC_some {C D : Cls} (h : twiceC C = some D) : ∃ i k, i < C.length ∧ dupK (atC C i) = some k ∧ D = C.set i ((atC C i).eraseIdx k) := by
  obtain ⟨i, hi, h1, _⟩ := firstN_some h
  unfold twAt at h1
  cases hd : dupK (atC C i) with
  | none => rw [hd] at h1; cases h1
  | some k => rw [hd] at h1; cases h1; exact ⟨i, k, hi, hd, rfl⟩
theorem alwaysC_some {C D : Cls} (h : alwaysC C = some D) : ∃ i, i < C.length ∧ alwaysB (atC C i) = true ∧ D = C.eraseIdx i := by
  obtain ⟨i, hi, h1, _⟩ := firstN_some h
  unfold alAt at h1
  split at h1
  · next hb => cases h1; exact ⟨i, hi, hb, rfl⟩
  · cases h1
theorem unitC_some {C : Cls} {n : Int} (h : unitC C = some n) : ∃ i, i < C.length ∧ atC C i = [n] := by
  obtain ⟨i, hi, h1, _⟩ := firstN_some h
  unfold unAt at h1
  split at h1
  · next hb =>
    cases h1
    obtain ⟨a, ha⟩ := List.length_eq_one_iff.1 hb
    exact ⟨i, hi, by rw [ha]; rfl⟩
  · cases h1
theorem posB_iff {C : Cls} {v : Int} : posB C v = true ↔ ∃ c ∈ C, v ∈ c := by simp [posB, hasB_iff]
theorem pureC_some {vars : Nat} {C : Cls} {n : Int} (h : pureC vars C = some n) : n.natAbs ≤ vars ∧ posB C n = true ∧ posB C (-n) = false := by
  obtain ⟨v, hv, h1, _⟩ := firstN_some h
  unfold puAt at h1
  split at h1
  · next hb => cases h1; simp at hb; exact ⟨by omega, hb.1, hb.2⟩
  · split at h1
    · next hb => cases h1; simp at hb; exact ⟨by omega, hb.1, by simpa using hb.2⟩
    · cases h1
theorem coverC_some {C D : Cls} (h : coverC C = some D) : ∃ i k, i < C.length ∧ k < C.length ∧ cvB C i k = true ∧ D = C.eraseIdx k := by
  obtain ⟨i, hi, h1, _⟩ := firstN_some h
  obtain ⟨k, hk, h2, _⟩ := firstN_some h1
  split at h2
  · next hb => cases h2; exact ⟨i, k, hi, hk, hb, rfl⟩
  · cases h2
theorem emptyB_iff {C : Cls} : emptyB C = true ↔ [] ∈ C := by
  simp [emptyB]
/-- What a step can be. -/
inductive Way (vars : Nat) (s : TrS) : TrS → Prop
  | twice (i k : Nat) : i < s.C.length → dupK (atC s.C i) = some k → Way vars s { s with C := s.C.set i ((atC s.C i).eraseIdx k) }
  | always (i : Nat) : i < s.C.length → alwaysB (atC s.C i) = true → Way vars s { s with C := s.C.eraseIdx i }
  | empty : [] ∈ s.C → Way vars s { s with C := [[]], E := true }
  | unit (n : Int) : [n] ∈ s.C → Way vars s { fixS s n with U := s.U ++ [n] }
  | pure (n : Int) : n.natAbs ≤ vars → posB s.C n = true → posB s.C (-n) = false → Way vars s (fixS s n)
  | cover (i k : Nat) : i < s.C.length → k < s.C.length → cvB s.C i k = true → Way vars s { s with C := s.C.eraseIdx k }
theorem way_of {vars : Nat} {s t : TrS} (h : stepS vars s = some t) : Way vars s t := by
  unfold stepS at h
  split at h
  · next C hC => cases h; obtain ⟨i, k, h1, h2, rfl⟩ := twiceC_some hC; exact .twice i k h1 h2
  split at h
  · next C hC => cases h; obtain ⟨i, h1, h2, rfl⟩ := alwaysC_some hC; exact .always i h1 h2
  split at h
  · next he => cases h; exact .empty (emptyB_iff.1 he)
  split at h
  · next n hn => cases h; obtain ⟨i, h1, h2⟩ := unitC_some hn; exact .unit n (h2 ▸ atC_mem h1)
  split at h
  · next n hn => cases h; obtain ⟨h1, h2, h3⟩ := pureC_some hn; exact .pure n h1 h2 h3
  split at h
  · next C hC => cases h; obtain ⟨i, k, h1, h2, h3, rfl⟩ := coverC_some hC; exact .cover i k h1 h2 h3
  · cases h
theorem sizeC_set {C : Cls} {i : Nat} {c : List Int} : ∀ (_ : i < C.length), sizeC (C.set i c) + ((atC C i).length + 1) = sizeC C + (c.length + 1) := by
  induction C generalizing i with
  | nil => intro h; simp at h
  | cons x r ih =>
    intro h
    cases i with
    | zero => simp [sizeC, atC]; omega
    | succ i =>
      have := ih (i := i) (by simpa using h)
      simp only [sizeC, List.set_cons_succ, List.map_cons, List.sum_cons] at this ⊢
      have e : atC (x :: r) (i + 1) = atC r i := by simp [atC]
      rw [e]; omega
theorem sizeC_erase {C : Cls} {i : Nat} : ∀ (_ : i < C.length), sizeC (C.eraseIdx i) + ((atC C i).length + 1) = sizeC C := by
  induction C generalizing i with
  | nil => intro h; simp at h
  | cons x r ih =>
    intro h
    cases i with
    | zero => simp [sizeC, atC]; omega
    | succ i =>
      have := ih (i := i) (by simpa using h)
      simp only [sizeC, List.eraseIdx_cons_succ, List.map_cons, List.sum_cons] at this ⊢
      have e : atC (x :: r) (i + 1) = atC r i := by simp [atC]
      rw [e]; omega
theorem sizeC_fix {C : Cls} {n : Int} : sizeC (fixC C n) ≤ sizeC C := by
  induction C with
  | nil => simp [fixC]
  | cons x r ih =>
    simp only [fixC, sizeC, List.filter_cons] at ih ⊢
    have := List.length_filter_le (fun k => !(k == -n)) x
    split <;> simp only [List.map_cons, List.sum_cons] <;> omega
theorem sizeC_fix_lt {C : Cls} {n : Int} : posB C n = true → sizeC (fixC C n) < sizeC C ∧ (fixC C n).length < C.length := by
  induction C with
  | nil => simp [posB]
  | cons x r ih =>
    intro h
    have hl := List.length_filter_le (fun k => !(k == -n)) x
    cases hx : hasB x n with
    | true =>
      have h1 := sizeC_fix (C := r) (n := n)
      have h2 : (fixC r n).length ≤ r.length := by simp only [fixC, List.length_map]; exact List.length_filter_le _ _
      have e : fixC (x :: r) n = fixC r n := by simp [fixC, hx]
      rw [e]
      simp only [sizeC, List.map_cons, List.sum_cons, List.length_cons] at h1 ⊢
      omega
    | false =>
      have h' : posB r n = true := by simpa [posB, hx] using h
      obtain ⟨h1, h2⟩ := ih h'
      have e : fixC (x :: r) n = x.filter (fun k => !(k == -n)) :: fixC r n := by simp [fixC, hx]
      rw [e]
      simp only [sizeC, List.map_cons, List.sum_cons, List.length_cons] at h1 ⊢
      omega
theorem sizeC_pos {C : Cls} (h : [] ∈ C) : 1 ≤ sizeC C := by
  induction C with
  | nil => simp at h
  | cons x r ih => simp [sizeC]; omega
/-- Each step makes it smaller. -/
theorem Way.less {vars : Nat} {s t : TrS} (h : Way vars s t) (he : s.E = false) : sizeS t < sizeS s := by
  unfold sizeS
  cases h with
  | twice i k h1 h2 =>
    have := sizeC_set (c := (atC s.C i).eraseIdx k) h1
    have hk := (dupK_some h2).1
    have hl : ((atC s.C i).eraseIdx k).length = (atC s.C i).length - 1 := List.length_eraseIdx_of_lt hk
    simp only [he]; omega
  | always i h1 h2 => have := sizeC_erase h1; simp only [he]; omega
  | empty h1 => have := sizeC_pos h1; simp [he, sizeC]; simp [sizeC] at this; omega
  | unit n h1 => have := sizeC_fix_lt ((posB_iff (v := n)).2 ⟨_, h1, by simp⟩); simp only [he, fixS]; omega
  | pure n h1 h2 h3 => have := sizeC_fix_lt h2; simp only [he, fixS]; omega
  | cover i k h1 h2 h3 => have := sizeC_erase h2; simp only [he]; omega
theorem clsOk_fix {vars : Nat} {C : Cls} {n : Int} (h : clsOk vars C) : clsOk vars (fixC C n) := by
  intro c hc
  simp only [fixC, List.mem_map, List.mem_filter] at hc
  obtain ⟨d, ⟨hd, _⟩, rfl⟩ := hc
  obtain ⟨h1, h2⟩ := h d hd
  exact ⟨Nat.le_trans (List.length_filter_le _ _) h1, fun x hx => h2 x (List.mem_filter.1 hx).1⟩
theorem Way.ok {vars n0 : Nat} {s t : TrS} (h : Way vars s t) (hs : TrOk vars n0 s) : TrOk vars n0 t := by
  obtain ⟨h1, h2, h3⟩ := hs
  cases h with
  | twice i k g1 g2 =>
    refine ⟨fun c hc => ?_, by simpa using h2, h3⟩
    rcases List.mem_or_eq_of_mem_set hc with hc | rfl
    · exact h1 c hc
    · obtain ⟨a, b⟩ := h1 _ (atC_mem g1)
      exact ⟨Nat.le_trans (List.length_eraseIdx_le _ _) a, fun x hx => b x (List.mem_of_mem_eraseIdx hx)⟩
  | always i g1 g2 =>
    refine ⟨fun c hc => h1 c (List.mem_of_mem_eraseIdx hc), ?_, h3⟩
    have := List.length_eraseIdx_le s.C i
    simp only; omega
  | empty g1 =>
    refine ⟨fun c hc => ?_, ?_, h3⟩
    · simp at hc; subst hc; exact h1 _ g1
    · have : 0 < s.C.length := List.length_pos_of_mem g1
      simp; omega
  | unit n g1 =>
    have g := sizeC_fix_lt ((posB_iff (v := n)).2 ⟨_, g1, by simp⟩)
    exact ⟨clsOk_fix h1, by simp [fixS]; omega, by simp [fixS]; omega⟩
  | pure n g1 g2 g3 =>
    have g := sizeC_fix_lt g2
    exact ⟨clsOk_fix h1, by simp [fixS]; omega, by simp [fixS]; omega⟩
  | cover i k g1 g2 g3 =>
    refine ⟨fun c hc => h1 c (List.mem_of_mem_eraseIdx hc), ?_, h3⟩
    have := List.length_eraseIdx_le s.C k
    simp only; omega
theorem Steps.ok {vars n0 : Nat} {s t : TrS} (h : Steps vars s t) (hs : TrOk vars n0 s) : TrOk vars n0 t := by
  induction h with
  | refl => exact hs
  | head h1 h2 _ ih => exact ih ((way_of h2).ok hs)
end Go.Proofs.Ytdofiipckcfopaa
