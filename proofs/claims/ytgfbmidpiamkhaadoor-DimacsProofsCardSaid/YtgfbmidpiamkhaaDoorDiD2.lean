/- What clauses are read, line by line. Plain. -/
import Derived.Test.YtgfbmidpiamkhaaDoorDiW5
namespace Go.Proofs.YtgfbmidpiamkhaaDoor
open Go.RowKit
namespace D28

/-- clauses that are read: no more than m numbers have been -/
structure GOk (g : GS) (m : Nat) : Prop where
  len : g.1.length ≤ m
  row : ∀ c ∈ g.1, c.length ≤ m
  ne : g.2 = true → g.1 ≠ []
theorem GOk.start : GOk ([], false) 0 := ⟨Nat.le_refl _, by simp, by simp⟩
theorem GOk.more {g : GS} {m n : Nat} (h : GOk g m) (hn : m ≤ n) : GOk g n := ⟨Nat.le_trans h.len hn, fun c hc => Nat.le_trans (h.row c hc) hn, h.ne⟩
theorem pushLast_ok {out : List (List Int)} {n : Int} {m : Nat} (hl : out.length ≤ m + 1) (hr : ∀ c ∈ out, c.length ≤ m) (hne : out ≠ []) : (pushLast out n).length ≤ m + 1 ∧ (∀ c ∈ pushLast out n, c.length ≤ m + 1) ∧ pushLast out n ≠ [] := by
  obtain ⟨r, l, rfl⟩ : ∃ r l, out = r ++ [l] := ⟨out.dropLast, out.getLast hne, (List.dropLast_concat_getLast _).symm⟩
  have e : pushLast (r ++ [l]) n = r ++ [l ++ [n]] := by simp [pushLast]
  rw [e]
  refine ⟨by simpa using hl, fun c hc => ?_, by simp⟩
  simp only [List.mem_append, List.mem_singleton] at hc
  rcases hc with hc | rfl
  · have := hr c (by simp [hc]); omega
  · have := hr l (by simp); simp; omega
theorem GOk.take {most vars : Int} {g : GS} {m : Nat} (h : GOk g m) (n : Int) : GOk (takeG most vars g n).1 (m + 1) := by
  unfold takeG
  split
  · exact h.more (by omega)
  · have hout : (if g.2 = true then g.1 else g.1 ++ [[]]).length ≤ m + 1 ∧ (∀ c ∈ (if g.2 = true then g.1 else g.1 ++ [[]]), c.length ≤ m) ∧ (if g.2 = true then g.1 else g.1 ++ [[]]) ≠ [] := by
      by_cases h2 : g.2 = true
      · rw [if_pos h2]; exact ⟨by have := h.len; omega, h.row, h.ne h2⟩
      · rw [if_neg h2]
        refine ⟨by have := h.len; simp; omega, fun c hc => ?_, by simp⟩
        simp only [List.mem_append, List.mem_singleton] at hc
        rcases hc with hc | rfl
        · exact h.row c hc
        · simp
    obtain ⟨h1, h2, h3⟩ := hout
    dsimp only
    split
    · exact ⟨h1, fun c hc => Nat.le_trans (h2 c hc) (by omega), by simp⟩
    · split
      · exact ⟨h1, fun c hc => Nat.le_trans (h2 c hc) (by omega), fun _ => h3⟩
      · obtain ⟨q1, q2, q3⟩ := pushLast_ok (n := n) h1 h2 h3
        exact ⟨q1, q2, fun _ => q3⟩
theorem wordsG_cons (most vars : Int) (g : GS) (w : Bs) (ws : List Bs) : wordsG most vars g (w :: ws) = match parseL w with
    | none => (g, 1)
    | some n => match takeG most vars g n with
      | (g', 0) => wordsG most vars g' ws
      | (g', k + 1) => (g', k + 1) := by rw [wordsG]; rfl
theorem linesG_cons (most vars : Int) (g : GS) (n : Nat) (ws : List Bs) (r : List Ln) : linesG most vars g ((n, ws) :: r) = match wordsG most vars g ws with
    | (g', 0) => linesG most vars g' r
    | (g', k + 1) => (g', k + 1, n) := by rw [linesG]; rfl
theorem wordsG_append (most vars : Int) : ∀ (a b : List Bs) (g : GS), wordsG most vars g (a ++ b) = match wordsG most vars g a with
    | (g', 0) => wordsG most vars g' b
    | (g', k + 1) => (g', k + 1)
  | [], b, g => rfl
  | w :: a, b, g => by
    rw [List.cons_append, wordsG_cons, wordsG_cons]
    cases parseL w with
    | none => rfl
    | some n =>
      dsimp only
      rcases h : takeG most vars g n with ⟨g', k⟩
      cases k with
      | zero => exact wordsG_append most vars a b g'
      | succ k => rfl
theorem wordsG_one (most vars : Int) (g : GS) (w : Bs) : wordsG most vars g [w] = match parseL w with
    | none => (g, 1)
    | some n => takeG most vars g n := by
  unfold wordsG
  cases parseL w with
  | none => rfl
  | some n =>
    dsimp only
    rcases h : takeG most vars g n with ⟨g', k⟩
    cases k with
    | zero => rfl
    | succ k => rfl
theorem wordsG_succ {most vars : Int} {ws : List Bs} {g g' : GS} {j : Nat} (hj : j < ws.length) (h : wordsG most vars g (ws.take j) = (g', 0)) : wordsG most vars g (ws.take (j + 1)) = match parseL ws[j] with
    | none => (g', 1)
    | some n => takeG most vars g' n := by
  rw [List.take_succ_eq_append_getElem hj, wordsG_append, h, ← wordsG_one]
theorem wordsG_bad {most vars : Int} {ws : List Bs} {g g' : GS} {j k : Nat} (h : wordsG most vars g (ws.take j) = (g', k + 1)) : wordsG most vars g ws = (g', k + 1) := by
  conv => lhs; rw [← List.take_append_drop j ws]
  rw [wordsG_append, h]
theorem linesG_append (most vars : Int) : ∀ (a b : List Ln) (g : GS), linesG most vars g (a ++ b) = match linesG most vars g a with
    | (g', 0, _) => linesG most vars g' b
    | (g', k + 1, n) => (g', k + 1, n)
  | [], b, g => rfl
  | (n, ws) :: a, b, g => by
    rw [List.cons_append, linesG_cons, linesG_cons]
    rcases h : wordsG most vars g ws with ⟨g', k⟩
    cases k with
    | zero => exact linesG_append most vars a b g'
    | succ k => rfl
theorem linesG_one (most vars : Int) (g : GS) (n : Nat) (ws : List Bs) : linesG most vars g [(n, ws)] = match wordsG most vars g ws with
    | (g', 0) => (g', 0, 0)
    | (g', k + 1) => (g', k + 1, n) := by
  unfold linesG
  rcases h : wordsG most vars g ws with ⟨g', k⟩
  cases k with
  | zero => rfl
  | succ k => rfl
theorem linesG_succ {most vars : Int} {L : List Ln} {g g' : GS} {k : Nat} (hk : k < L.length) (h : linesG most vars g (L.take k) = (g', 0, 0)) : linesG most vars g (L.take (k + 1)) = match wordsG most vars g' L[k].2 with
    | (g2, 0) => (g2, 0, 0)
    | (g2, c + 1) => (g2, c + 1, L[k].1) := by
  rw [List.take_succ_eq_append_getElem hk, linesG_append, h]
  exact linesG_one most vars g' L[k].1 L[k].2
theorem linesG_bad {most vars : Int} {L : List Ln} {g g' : GS} {k c n : Nat} (h : linesG most vars g (L.take k) = (g', c + 1, n)) : linesG most vars g L = (g', c + 1, n) := by
  conv => lhs; rw [← List.take_append_drop k L]
  rw [linesG_append, h]
theorem parseL_range {w : Bs} {n : Int} (h : parseL w = some n) : -999999999 ≤ n ∧ n ≤ 999999999 := by
  have key : ∀ neg d, parseD neg d = some n → -999999999 ≤ n ∧ n ≤ 999999999 := by
    intro neg d h
    unfold parseD at h
    split at h
    · cases h
    · split at h
      · rename_i h1 h2
        have hl : d.length ≤ 9 := by
          rcases Nat.lt_or_ge 9 d.length with h9 | h9
          · exact absurd (.inr (.inl h9)) h1
          · exact h9
        have := numOf_lt d.length (Nat.le_refl _) (by rw [List.take_length]; exact h2)
        rw [List.take_length] at this
        have h10 : 10 ^ d.length ≤ 10 ^ 9 := Nat.pow_le_pow_right (by omega) hl
        have e9 : (10 : Nat) ^ 9 = 1000000000 := rfl
        simp only [Option.some.injEq] at h
        split at h <;> omega
      · cases h
  unfold parseL at h
  split at h
  · exact key _ _ h
  · exact key _ _ h
theorem emits_words {n : Nat} {ps : List Bs} {x : Ln} (h : x ∈ emits n ps) : ∃ p ∈ ps, x.2 = wordsOf p := by
  induction ps generalizing n with
  | nil => cases h
  | cons p ps ih =>
    simp only [emits, List.mem_append] at h
    rcases h with h | h
    · obtain ⟨m, V⟩ := x
      exact ⟨p, by simp, (mem_emitL h).2.1⟩
    · obtain ⟨q, hq, e⟩ := ih h
      exact ⟨q, by simp [hq], e⟩
theorem emits_count (ps : List Bs) : ∀ n, (emits n ps).length ≤ ps.length := by
  induction ps with
  | nil => simp [emits]
  | cons p ps ih =>
    intro n
    have := ih (n + 1)
    simp only [emits, List.length_append, List.length_cons]
    have : (emitL n (wordsOf p)).length ≤ 1 := by unfold emitL; split <;> simp
    omega
theorem lines_count (a : Bs) : (linesOf a).length ≤ a.length + 1 := by
  rw [linesOf_eq]
  have := emits_count (cut10 a) 1
  have h2 := cut10_len a
  have h3 := List.count_le_length (a := (10 : UInt8)) (l := a)
  omega
theorem lines_words {a : Bs} {x : Ln} (h : x ∈ linesOf a) : x.2.length ≤ a.length + 1 ∧ x.2 ≠ [] := by
  rw [linesOf_eq] at h
  obtain ⟨p, hp, e⟩ := emits_words h
  have := words_len p
  have h2 := cut10_mem hp
  refine ⟨by rw [e]; omega, ?_⟩
  have hc : ∀ n, x ∈ emits n (cut10 a) → countsB x.2 = true := by
    intro n
    generalize cut10 a = ps
    induction ps generalizing n with
    | nil => intro h; cases h
    | cons q ps ih =>
      intro h
      simp only [emits, List.mem_append] at h
      rcases h with h | h
      · obtain ⟨m, V⟩ := x
        have := mem_emitL h
        rw [this.2.1]; exact this.2.2
      · exact ih _ h
  exact counts_ne (hc 1 h)
end D28
end Go.Proofs.YtgfbmidpiamkhaaDoor
