/- References of texts, and properties put in. Plain. -/
import Derived.Test.YtpgdioopkcfjdaaBase
namespace Go.Proofs.Ytpgdioopkcfjdaa

abbrev Bs := List UInt8
/-- what stands ahead of the first `${`, and behind it -/
def findOpen : Bs → Option (Bs × Bs)
  | [] => none
  | c :: t => if c = 36 ∧ t.head? = some 123 then some ([], t.tail) else (findOpen t).map fun x => (c :: x.1, x.2)
/-- what stands ahead of the first `}`, and behind it -/
def findShut : Bs → Option (Bs × Bs)
  | [] => none
  | c :: t => if c = 125 then some ([], t) else (findShut t).map fun x => (c :: x.1, x.2)
/-- ahead, name, rest -/
def cutP (s : Bs) : Option (Bs × Bs × Bs) :=
  match findOpen s with
  | none => none
  | some (a, t) => match findShut t with
    | none => none
    | some (n, r) => some (a, n, r)
theorem findOpen_eq {s a t : Bs} (h : findOpen s = some (a, t)) : s = a ++ 36 :: 123 :: t := by
  induction s generalizing a with
  | nil => simp [findOpen] at h
  | cons c s ih =>
    unfold findOpen at h
    split at h
    · rename_i hc
      obtain ⟨rfl, h2⟩ := hc
      cases s with
      | nil => simp at h2
      | cons d s =>
        simp only [List.head?_cons, Option.some.injEq] at h2
        subst h2
        simp only [List.tail_cons, Option.some.injEq, Prod.mk.injEq] at h
        obtain ⟨rfl, rfl⟩ := h
        rfl
    · simp only [Option.map_eq_some_iff] at h
      obtain ⟨⟨a', t'⟩, h1, h2⟩ := h
      simp only [Prod.mk.injEq] at h2
      obtain ⟨rfl, rfl⟩ := h2
      rw [ih h1]; rfl
theorem findShut_eq {s a t : Bs} (h : findShut s = some (a, t)) : s = a ++ 125 :: t ∧ ¬ (125 : UInt8) ∈ a := by
  induction s generalizing a with
  | nil => simp [findShut] at h
  | cons c s ih =>
    unfold findShut at h
    split at h
    · rename_i hc
      simp only [Option.some.injEq, Prod.mk.injEq] at h
      obtain ⟨rfl, rfl⟩ := h
      subst hc
      exact ⟨rfl, by simp⟩
    · rename_i hc
      simp only [Option.map_eq_some_iff] at h
      obtain ⟨⟨a', t'⟩, h1, h2⟩ := h
      simp only [Prod.mk.injEq] at h2
      obtain ⟨rfl, rfl⟩ := h2
      obtain ⟨e, hn⟩ := ih h1
      refine ⟨by rw [e]; rfl, ?_⟩
      simp only [List.mem_cons, not_or]
      exact ⟨fun e => hc e.symm, hn⟩
theorem cutP_eq {s a n r : Bs} (h : cutP s = some (a, n, r)) : s = a ++ 36 :: 123 :: (n ++ 125 :: r) := by
  unfold cutP at h
  split at h
  · simp at h
  · rename_i a' t h1
    split at h
    · simp at h
    · rename_i n' r' h2
      simp only [Option.some.injEq, Prod.mk.injEq] at h
      obtain ⟨rfl, rfl, rfl⟩ := h
      rw [findOpen_eq h1, (findShut_eq h2).1]
theorem cutP_lt {s a n r : Bs} (h : cutP s = some (a, n, r)) : r.length < s.length := by
  rw [cutP_eq h]
  simp
  omega
/-- the names that a text refers to -/
def refsP (s : Bs) : List Bs :=
  match _h : cutP s with
  | none => []
  | some (_, n, r) => n :: refsP r
termination_by s.length
decreasing_by exact cutP_lt (by assumption)
abbrev PL := List (Bs × Bs)
def lookP (L : PL) (n : Bs) : Option Bs := (L.find? (fun p => p.1 == n)).map (·.2)
inductive Ans where
  | ok (v : Bs)
  | loop (n : Bs)
  | big (n : Bs)
deriving DecidableEq
/-- a text put together: `val` answers a name, `me` is told where the limit is passed -/
def txtP (val : PL → Bs → Ans × PL) (L : PL) (me : Bs) (done : PL) (acc s : Bs) : Ans × PL :=
  match _h : cutP s with
  | none => if 4096 < (acc ++ s).length then (.big me, done) else (.ok (acc ++ s), done)
  | some (a, n, r) =>
    if 4096 < (acc ++ a).length then (.big me, done)
    else match (if (lookP L n).isSome then val done n else (.ok (36 :: 123 :: (n ++ [125])), done)) with
      | (.ok v, done') => if 4096 < (acc ++ a ++ v).length then (.big me, done') else txtP val L me done' (acc ++ a ++ v) r
      | (x, done') => (x, done')
termination_by s.length
decreasing_by exact cutP_lt (by assumption)
/-- a property's value; `d` more may be open within one another -/
def valP (L : PL) : Nat → List Bs → PL → Bs → Ans × PL
  | d, way, done, n =>
    match lookP done n with
    | some v => (.ok v, done)
    | none =>
      if n ∈ way then (.loop n, done)
      else match d with
        | 0 => (.big n, done)
        | d + 1 => match txtP (fun done m => valP L d (way ++ [n]) done m) L n done [] ((lookP L n).getD []) with
          | (.ok v, done') => (.ok v, done' ++ [(n, v)])
          | (x, done') => (x, done')
end Go.Proofs.Ytpgdioopkcfjdaa
