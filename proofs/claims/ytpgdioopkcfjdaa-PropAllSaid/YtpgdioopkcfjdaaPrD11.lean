/- All: every property once, in order, to the first that goes wrong. -/
import Derived.Test.YtpgdioopkcfjdaaPrD10
import Derived.Test.YtpgdioopkcfjdaaPrX6
namespace Go.Proofs.Ytpgdioopkcfjdaa

def allP (L : PL) : PL → PL → PL → Option (Int × Bs) × PL × PL
  | [], done, acc => (none, acc, done)
  | p :: U, done, acc => match valP L 32 [] done p.1 with
    | (.ok v, done') => allP L U done' (acc ++ [(p.1, v)])
    | (.loop n, done') => (some (22, n), acc, done')
    | (.big n, done') => (some (2, n), acc, done')
/-- what of the rest is new -/
def uq : PL → PL → PL
  | _, [] => []
  | s, p :: R => if (lookP s p.1).isSome then uq (s ++ [p]) R else p :: uq (s ++ [p]) R
theorem uniq_uq : ∀ (R s : PL), uniqP (s ++ R) = uniqP s ++ uq s R
  | [], s => by simp [uq]
  | p :: R, s => by
    rw [show s ++ p :: R = (s ++ [p]) ++ R by simp, uniq_uq R (s ++ [p]), uniqP_snoc, lookP_uniq p.1 _ s rfl, uq]
    split
    · rfl
    · simp
theorem uniq_uq0 (L : PL) : uniqP L = uq [] L := by
  have := uniq_uq L []
  rw [List.nil_append] at this
  rw [this]; rfl
theorem uq_at {L : PL} {i : Nat} (h : i < L.length) : uq (L.take i) (L.drop i) = if (lookP (L.take i) L[i].1).isSome then uq (L.take (i + 1)) (L.drop (i + 1)) else L[i] :: uq (L.take (i + 1)) (L.drop (i + 1)) := by
  rw [List.take_succ_eq_append_getElem h]
  conv => lhs; rw [List.drop_eq_getElem_cons h]
  rfl
theorem idx_first {L : PL} {i : Nat} (h : i < L.length) : (((idxP L L[i].1) != ((i : Nat) : Int)) = true ∧ (lookP (L.take i) L[i].1).isSome = true) ∨ ((idxP L L[i].1 != ((i : Nat) : Int)) = false ∧ (lookP (L.take i) L[i].1).isSome = false) := by
  unfold idxP lookP
  cases hf : L.findIdx? (fun p => p.1 == L[i].1) with
  | none =>
    have := List.findIdx?_eq_none_iff.1 hf L[i] (List.getElem_mem h)
    simp at this
  | some j =>
    obtain ⟨hj, hp, hlt⟩ := List.findIdx?_eq_some_iff_getElem.1 hf
    rcases Nat.lt_trichotomy j i with c | c | c
    · refine .inl ⟨by simp; omega, ?_⟩
      rw [Option.isSome_map, List.find?_isSome]
      exact ⟨L[j], List.mem_take_iff_getElem.2 ⟨j, by omega, rfl⟩, hp⟩
    · subst c
      refine .inr ⟨by simp, ?_⟩
      rw [Option.isSome_map, List.find?_eq_none.2]
      · rfl
      · intro x hx
        obtain ⟨k, hk, rfl⟩ := List.mem_take_iff_getElem.1 hx
        exact hlt k (by omega)
    · exact absurd (by simp) (hlt i c)
end Go.Proofs.Ytpgdioopkcfjdaa
