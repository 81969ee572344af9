/- What PropPlain says of the plain function. -/
import Derived.Test.YtpgdioopkcfjdaaPrD7
namespace Go.Proofs.Ytpgdioopkcfjdaa

theorem refs_none {s : Bs} (h : cutP s = none) : refsP s = [] := by
  rw [refsP]; split
  · rfl
  · rename_i h'; rw [h] at h'; cases h'
theorem refs_some {s a n r : Bs} (h : cutP s = some (a, n, r)) : refsP s = n :: refsP r := by
  rw [refsP]; split
  · rename_i h'; rw [h] at h'; cases h'
  · rename_i h'; rw [h] at h'; cases h'; rfl
theorem unknown_any {val : PL → Bs → Ans × PL} {L : PL} {me : Bs} : ∀ (k : Nat) (s acc : Bs) (D : PL), s.length ≤ k → (∀ n ∈ refsP s, lookP L n = none) → (acc ++ s).length ≤ 4096 → txtP val L me D acc s = (.ok (acc ++ s), D) := by
  intro k
  induction k with
  | zero =>
    intro s acc D hk hr hl
    have : s = [] := List.eq_nil_of_length_eq_zero (by omega)
    subst this
    rw [txtP_none rfl, if_neg (by omega)]
  | succ k ih =>
    intro s acc D hk hr hl
    cases hc : cutP s with
    | none => rw [txtP_none hc, if_neg (by omega)]
    | some x =>
      obtain ⟨a, n, r⟩ := x
      have hlt := cutP_lt hc
      have he := cutP_eq hc
      rw [refs_some hc] at hr
      have hn : (lookP L n).isSome = false := by rw [hr n (by simp)]; rfl
      have h1 : (acc ++ s) = acc ++ a ++ 36 :: 123 :: (n ++ [125]) ++ r := by rw [he]; simp [List.append_assoc]
      have hlen := congrArg List.length h1
      simp at hlen
      rw [txtP_uo hc (by simp at hl ⊢; omega) hn (by simp at hl ⊢; omega), h1]
      exact ih r _ D (by omega) (fun m hm => hr m (by simp [hm])) (by rw [← h1]; exact hl)
theorem no36_open : ∀ {a b : Bs}, ¬ (36 : UInt8) ∈ a → findOpen (a ++ b) = (findOpen b).map fun x => (a ++ x.1, x.2)
  | [], b, _ => by simp
  | c :: a, b, h => by
    simp only [List.mem_cons, not_or] at h
    rw [List.cons_append, findOpen, if_neg (fun e => h.1 e.1.symm), no36_open h.2, Option.map_map]
    rfl
theorem no36_cut {a b : Bs} (h : ¬ (36 : UInt8) ∈ a) : cutP (a ++ b) = (cutP b).map fun x => (a ++ x.1, x.2.1, x.2.2) := by
  unfold cutP
  rw [no36_open h]
  cases findOpen b with
  | none => rfl
  | some x =>
    obtain ⟨y, t⟩ := x
    simp only [Option.map_some]
    cases findShut t with
    | none => rfl
    | some z => rfl
theorem no36_txt {val : PL → Bs → Ans × PL} {L : PL} {me : Bs} {D : PL} {acc a b : Bs} (h : ¬ (36 : UInt8) ∈ a) : txtP val L me D acc (a ++ b) = txtP val L me D (acc ++ a) b := by
  cases hc : cutP b with
  | none =>
    have h2 := no36_cut (b := b) h
    rw [hc] at h2
    rw [txtP_none h2, txtP_none hc, List.append_assoc]
  | some x =>
    obtain ⟨y, n, r⟩ := x
    have h2 := no36_cut (b := b) h
    rw [hc] at h2
    rw [txtP_some h2, txtP_some hc]
    simp only [List.append_assoc]
theorem no36_refs {a : Bs} (h : ¬ (36 : UInt8) ∈ a) : refsP a = [] := by
  apply refs_none
  have h2 := no36_cut (b := []) h
  rw [List.append_nil] at h2
  rw [h2]; rfl
/-- a text without an opening ahead of another: put together after the other has been -/
theorem plain_ok {L D1 : PL} {a b y : Bs} (h : ¬ (36 : UInt8) ∈ a) (hb : txtP (fun done m => valP L 32 [] done m) L [] [] [] b = (.ok y, D1)) :
    txtP (fun done m => valP L 32 [] done m) L [] D1 [] (a ++ b) = if 4096 < (a ++ y).length then (.big [], D1) else (.ok (a ++ y), D1) := by
  rw [no36_txt h, List.nil_append]
  have := rerun_ok _ b [] [] D1 y (Nat.le_refl _) (fun _ h => by cases h) hb D1 (.refl _) a
  rwa [List.append_nil] at this
theorem plain_bad {L D1 : PL} {a b : Bs} {x : Ans} (h : ¬ (36 : UInt8) ∈ a) (hb : txtP (fun done m => valP L 32 [] done m) L [] [] [] b = (x, D1)) (hx : notOk x) :
    ∃ x', txtP (fun done m => valP L 32 [] done m) L [] D1 [] (a ++ b) = (x', D1) ∧ (x' = x ∨ x' = .big []) := by
  rw [no36_txt h, List.nil_append]
  obtain ⟨x', h1, h2, _⟩ := rerun_bad (me := []) (rerun_val 32 []) _ b [] [] D1 x (Nat.le_refl _) (fun _ h => by cases h) hb hx a
  rw [List.append_nil] at h1
  exact ⟨x', h1, h2⟩
end Go.Proofs.Ytpgdioopkcfjdaa
