/- Lines, words and numbers of a text. Plain. -/
import Derived.Test.YtgfbmidpiamkhaaDoorDiB
namespace Go.Proofs.YtgfbmidpiamkhaaDoor
namespace D28

def blankU (c : UInt8) : Bool := c == 32 || c == 9 || c == 10 || c == 13
/-- words, while a text is read: those that are whole, and the one that is read -/
abbrev WS := List Bs × Bs
def wstep (s : WS) (c : UInt8) : WS := if blankU c then (if s.2 = [] then s else (s.1 ++ [s.2], [])) else (s.1, s.2 ++ [c])
def wfin (s : WS) : List Bs := if s.2 = [] then s.1 else s.1 ++ [s.2]
def wordsOf (a : Bs) : List Bs := wfin (a.foldl wstep ([], []))
/-- a line that counts -/
abbrev Ln := Nat × List Bs
def countsB (W : List Bs) : Bool := match W with
  | (99 :: _) :: _ => false
  | [] => false
  | _ => true
def emitL (n : Nat) (W : List Bs) : List Ln := if countsB W then [(n, W)] else []
structure LS where
  out : List Ln
  at_ : Nat
  ws : WS
def LS.start : LS := ⟨[], 1, ([], [])⟩
def lstep (s : LS) (c : UInt8) : LS := if c = 10 then ⟨s.out ++ emitL s.at_ (wfin s.ws), s.at_ + 1, ([], [])⟩ else ⟨s.out, s.at_, wstep s.ws c⟩
def lfin (s : LS) : List Ln := s.out ++ emitL s.at_ (wfin s.ws)
def linesFrom (s : LS) (a : Bs) : List Ln := lfin (a.foldl lstep s)
def linesOf (a : Bs) : List Ln := linesFrom .start a
def endOf (a : Bs) : Nat := a.count 10 + 2

theorem wfin_words {s : WS} {c : UInt8} (h : blankU c = true) : wstep s c = (wfin s, []) := by
  unfold wstep wfin
  rw [if_pos h]
  split
  · obtain ⟨x, y⟩ := s; simp_all
  · rfl

/-- a text cut at its line ends -/
def cut10 : Bs → List Bs
  | [] => [[]]
  | x :: l => if x = 10 then [] :: cut10 l else match cut10 l with
    | p :: ps => (x :: p) :: ps
    | [] => [[x]]
theorem cut10_ne (l : Bs) : cut10 l ≠ [] := by
  cases l with
  | nil => simp [cut10]
  | cons x l =>
    unfold cut10
    split
    · simp
    · split <;> simp
theorem cut10_end (l : Bs) : cut10 (10 :: l) = [] :: cut10 l := by rw [cut10, if_pos rfl]
theorem cut10_other {x : UInt8} {l p : Bs} {ps : List Bs} (hx : x ≠ 10) (h : cut10 l = p :: ps) : cut10 (x :: l) = (x :: p) :: ps := by rw [cut10, if_neg hx, h]
theorem cut10_len (l : Bs) : (cut10 l).length = l.count 10 + 1 := by
  induction l with
  | nil => rfl
  | cons x l ih =>
    by_cases hx : x = 10
    · subst hx; rw [cut10_end, List.count_cons_self]; simp [ih]
    · obtain ⟨p, ps, hp⟩ : ∃ p ps, cut10 l = p :: ps := by
        cases h : cut10 l with
        | nil => exact absurd h (cut10_ne l)
        | cons p ps => exact ⟨p, ps, rfl⟩
      rw [cut10_other hx hp, List.count_cons_of_ne (fun e => hx e)]
      rw [hp] at ih; simpa using ih
/-- lines out of the pieces -/
def emits : Nat → List Bs → List Ln
  | _, [] => []
  | n, p :: ps => emitL n (wordsOf p) ++ emits (n + 1) ps
theorem emits_append (n : Nat) (a b : List Bs) : emits n (a ++ b) = emits n a ++ emits (n + a.length) b := by
  induction a generalizing n with
  | nil => simp [emits]
  | cons p ps ih => simp [emits, ih, Nat.add_assoc, Nat.add_comm 1]
theorem lines_from (l : Bs) : ∀ (s : LS) p ps, cut10 l = p :: ps → linesFrom s l = s.out ++ emitL s.at_ (wfin (p.foldl wstep s.ws)) ++ emits (s.at_ + 1) ps := by
  induction l with
  | nil => intro s p ps h; cases h; simp [linesFrom, lfin, emits]
  | cons x l ih =>
    intro s p ps h
    obtain ⟨q, qs, hq⟩ : ∃ p ps, cut10 l = p :: ps := by
      cases h : cut10 l with
      | nil => exact absurd h (cut10_ne l)
      | cons p ps => exact ⟨p, ps, rfl⟩
    by_cases hx : x = 10
    · subst hx
      rw [cut10_end] at h
      cases h
      rw [hq]
      show linesFrom (lstep s 10) l = _
      rw [ih _ q qs hq]
      simp [lstep, emits, wordsOf]
    · rw [cut10_other hx hq] at h
      simp only [List.cons.injEq] at h
      obtain ⟨h1, h2⟩ := h
      subst h1 h2
      show linesFrom (lstep s x) l = _
      rw [ih _ q qs hq]
      simp [lstep, hx]
theorem linesOf_eq (a : Bs) : linesOf a = emits 1 (cut10 a) := by
  obtain ⟨q, qs, hq⟩ : ∃ p ps, cut10 a = p :: ps := by
    cases h : cut10 a with
    | nil => exact absurd h (cut10_ne a)
    | cons p ps => exact ⟨p, ps, rfl⟩
  rw [linesOf, lines_from a _ q qs hq, hq]
  simp [LS.start, emits, wordsOf]
theorem mem_emitL {n m : Nat} {W V : List Bs} (h : (m, V) ∈ emitL n W) : m = n ∧ V = W ∧ countsB W = true := by
  unfold emitL at h
  split at h
  · simp only [List.mem_singleton, Prod.mk.injEq] at h
    exact ⟨h.1, h.2, by assumption⟩
  · cases h
theorem counts_ne {W : List Bs} (h : countsB W = true) : W ≠ [] := by rintro rfl; cases h
theorem at_of (a : Bs) : ∀ s : LS, (a.foldl lstep s).at_ = s.at_ + a.count 10 := by
  induction a with
  | nil => intro s; rfl
  | cons x a ih =>
    intro s
    show (a.foldl lstep (lstep s x)).at_ = _
    rw [ih]
    by_cases hx : x = 10
    · subst hx; rw [List.count_cons_self]; simp only [lstep, if_pos]; omega
    · rw [List.count_cons_of_ne (fun e => hx e)]; simp [lstep, hx]

/-! ### Numbers -/
def digU (c : UInt8) : Bool := decide (48 ≤ c.toNat) && decide (c.toNat ≤ 57)
def numOf (d : Bs) : Nat := d.foldl (fun n c => 10 * n + (c.toNat - 48)) 0
def parseD (neg : Bool) (d : Bs) : Option Int :=
  if d = [] ∨ 9 < d.length ∨ (d.head? = some 48 ∧ (1 < d.length ∨ neg = true)) then none
  else if d.all digU then some (if neg then -(numOf d : Int) else (numOf d : Int)) else none
def parseL (w : Bs) : Option Int := match w with
  | 45 :: r => parseD true r
  | _ => parseD false w

/-! ### Clauses -/
/-- clauses that are read: those that there are, and whether the last one is open -/
abbrev GS := List (List Int) × Bool
def pushLast (out : List (List Int)) (n : Int) : List (List Int) := match out.reverse with
  | [] => []
  | c :: r => r.reverse ++ [c ++ [n]]
/-- a number more: 0: that goes; 1: wrong; 2: a clause too many -/
def takeG (most vars : Int) (g : GS) (n : Int) : GS × Nat :=
  if g.2 = false ∧ most ≤ g.1.length then (g, 2)
  else
    let out := if g.2 then g.1 else g.1 ++ [[]]
    if n = 0 then ((out, false), 0)
    else if 0 ≤ vars ∧ (vars < n ∨ vars < -n) then ((out, true), 1)
    else ((pushLast out n, true), 0)
/-- the words of a line, one behind the other -/
def wordsG (most vars : Int) : GS → List Bs → GS × Nat
  | g, [] => (g, 0)
  | g, w :: ws => match parseL w with
    | none => (g, 1)
    | some n => match takeG most vars g n with
      | (g', 0) => wordsG most vars g' ws
      | (g', k + 1) => (g', k + 1)
/-- the lines, one behind the other: what is wrong and where -/
def linesG (most vars : Int) : GS → List Ln → GS × Nat × Nat
  | g, [] => (g, 0, 0)
  | g, (n, ws) :: r => match wordsG most vars g ws with
    | (g', 0) => linesG most vars g' r
    | (g', k + 1) => (g', k + 1, n)
end D28
end Go.Proofs.YtgfbmidpiamkhaaDoor
