/- What is being put together is not remembered yet. Plain. -/
import Derived.Test.YtpgdioopkcfjdaaPrD3
namespace Go.Proofs.Ytpgdioopkcfjdaa

theorem lookP_append (L M : PL) (n : Bs) : lookP (L ++ M) n = (lookP L n).or (lookP M n) := by
  unfold lookP
  rw [List.find?_append]
  cases L.find? (fun p => p.1 == n) <;> rfl
theorem lookP_snoc (L : PL) (n v m : Bs) (h : lookP L n = none) : lookP (L ++ [(n, v)]) m = if m = n then some v else lookP L m := by
  rw [lookP_append]
  by_cases e : m = n
  · subst e
    rw [h, if_pos rfl]
    simp [lookP]
  · rw [if_neg e]
    have : lookP [(n, v)] m = none := by
      unfold lookP
      have e' : ¬ n = m := fun h => e h.symm
      simp [e']
    rw [this]; simp
def WayOK (way : List Bs) (done : PL) : Prop := ∀ m ∈ way, lookP done m = none
theorem txtP_none {val : PL → Bs → Ans × PL} {L : PL} {me : Bs} {done : PL} {acc s : Bs} (h : cutP s = none) : txtP val L me done acc s = if 4096 < (acc ++ s).length then (.big me, done) else (.ok (acc ++ s), done) := by
  rw [txtP]; split
  · rfl
  · rename_i h'; rw [h] at h'; cases h'
theorem txtP_some {val : PL → Bs → Ans × PL} {L : PL} {me : Bs} {done : PL} {acc s a n r : Bs} (h : cutP s = some (a, n, r)) : txtP val L me done acc s = if 4096 < (acc ++ a).length then (.big me, done)
    else match (if (lookP L n).isSome then val done n else (.ok (36 :: 123 :: (n ++ [125])), done)) with
      | (.ok v, done') => if 4096 < (acc ++ a ++ v).length then (.big me, done') else txtP val L me done' (acc ++ a ++ v) r
      | (x, done') => (x, done') := by
  rw [txtP]; split
  · rename_i h'; rw [h] at h'; cases h'
  · rename_i h'; rw [h] at h'; cases h'; rfl
section
variable {val : PL → Bs → Ans × PL} {L : PL} {me : Bs} {done dn : PL} {acc s a n r v : Bs}
theorem txtP_b1 (h : cutP s = some (a, n, r)) (hg : 4096 < (acc ++ a).length) : txtP val L me done acc s = (.big me, done) := by rw [txtP_some h, if_pos hg]
theorem txtP_vb (h : cutP s = some (a, n, r)) (hg : ¬ 4096 < (acc ++ a).length) (hl : (lookP L n).isSome = true) (hv : val done n = (.ok v, dn)) (hg2 : 4096 < (acc ++ a ++ v).length) : txtP val L me done acc s = (.big me, dn) := by
  rw [txtP_some h, if_neg hg, if_pos hl, hv]; dsimp only; rw [if_pos hg2]
theorem txtP_vo (h : cutP s = some (a, n, r)) (hg : ¬ 4096 < (acc ++ a).length) (hl : (lookP L n).isSome = true) (hv : val done n = (.ok v, dn)) (hg2 : ¬ 4096 < (acc ++ a ++ v).length) : txtP val L me done acc s = txtP val L me dn (acc ++ a ++ v) r := by
  rw [txtP_some h, if_neg hg, if_pos hl, hv]; dsimp only; rw [if_neg hg2]
theorem txtP_vl {n2 : Bs} (h : cutP s = some (a, n, r)) (hg : ¬ 4096 < (acc ++ a).length) (hl : (lookP L n).isSome = true) (hv : val done n = (.loop n2, dn)) : txtP val L me done acc s = (.loop n2, dn) := by
  rw [txtP_some h, if_neg hg, if_pos hl, hv]
theorem txtP_vg {n2 : Bs} (h : cutP s = some (a, n, r)) (hg : ¬ 4096 < (acc ++ a).length) (hl : (lookP L n).isSome = true) (hv : val done n = (.big n2, dn)) : txtP val L me done acc s = (.big n2, dn) := by
  rw [txtP_some h, if_neg hg, if_pos hl, hv]
theorem txtP_ub (h : cutP s = some (a, n, r)) (hg : ¬ 4096 < (acc ++ a).length) (hl : (lookP L n).isSome = false) (hg2 : 4096 < (acc ++ a ++ 36 :: 123 :: (n ++ [125])).length) : txtP val L me done acc s = (.big me, done) := by
  rw [txtP_some h, if_neg hg, if_neg (by rw [hl]; exact Bool.false_ne_true)]; dsimp only; rw [if_pos hg2]
theorem txtP_uo (h : cutP s = some (a, n, r)) (hg : ¬ 4096 < (acc ++ a).length) (hl : (lookP L n).isSome = false) (hg2 : ¬ 4096 < (acc ++ a ++ 36 :: 123 :: (n ++ [125])).length) : txtP val L me done acc s = txtP val L me done (acc ++ a ++ 36 :: 123 :: (n ++ [125])) r := by
  rw [txtP_some h, if_neg hg, if_neg (by rw [hl]; exact Bool.false_ne_true)]; dsimp only; rw [if_neg hg2]
end
/-- an induction over a text put together: P holds of what is remembered, at each step -/
theorem txtP_ind {val : PL → Bs → Ans × PL} {L : PL} {me : Bs} (P : PL → Prop) (hv : ∀ done n, (lookP L n).isSome = true → P done → P (val done n).2) : ∀ (k : Nat) (s acc : Bs) (done : PL), s.length ≤ k → P done → P (txtP val L me done acc s).2 := by
  intro k
  induction k with
  | zero =>
    intro s acc done hk hp
    have : s = [] := List.eq_nil_of_length_eq_zero (by omega)
    subst this
    rw [txtP_none rfl]
    split <;> exact hp
  | succ k ih =>
    intro s acc done hk hp
    cases hc : cutP s with
    | none => rw [txtP_none hc]; split <;> exact hp
    | some x =>
      obtain ⟨a, n, r⟩ := x
      have hlt := cutP_lt hc
      rw [txtP_some hc]
      split
      · exact hp
      · cases hl : (lookP L n).isSome with
        | false =>
          rw [if_neg Bool.false_ne_true]
          dsimp only
          split
          · exact hp
          · exact ih _ _ _ (by omega) hp
        | true =>
          rw [if_pos rfl]
          have h1 := hv done n hl hp
          cases hx : val done n with
          | mk x dn =>
            rw [hx] at h1
            cases x with
            | ok v =>
              dsimp only
              split
              · exact h1
              · exact ih _ _ _ (by omega) h1
            | loop n2 => exact h1
            | big n2 => exact h1
theorem valP_done {L : PL} {d : Nat} {way : List Bs} {done : PL} {n v : Bs} (h : lookP done n = some v) : valP L d way done n = (.ok v, done) := by
  unfold valP; rw [h]
theorem valP_loop {L : PL} {d : Nat} {way : List Bs} {done : PL} {n : Bs} (h : lookP done n = none) (hw : n ∈ way) : valP L d way done n = (.loop n, done) := by
  unfold valP; rw [h]; dsimp only; rw [if_pos hw]
theorem valP_big {L : PL} {way : List Bs} {done : PL} {n : Bs} (h : lookP done n = none) (hw : ¬ n ∈ way) : valP L 0 way done n = (.big n, done) := by
  unfold valP; rw [h]; dsimp only; rw [if_neg hw]
theorem valP_go {L : PL} {d : Nat} {way : List Bs} {done : PL} {n : Bs} (h : lookP done n = none) (hw : ¬ n ∈ way) : valP L (d + 1) way done n = match txtP (fun done m => valP L d (way ++ [n]) done m) L n done [] ((lookP L n).getD []) with
    | (.ok v, done') => (.ok v, done' ++ [(n, v)])
    | (x, done') => (x, done') := by
  rw [valP]; rw [h]; dsimp only; rw [if_neg hw]; rfl
theorem valP_way {L : PL} : ∀ (d : Nat) (way : List Bs) (done : PL) (n : Bs), WayOK way done → WayOK way (valP L d way done n).2 := by
  intro d
  induction d with
  | zero =>
    intro way done n h
    cases hl : lookP done n with
    | some v => rw [valP_done hl]; exact h
    | none =>
      by_cases hw : n ∈ way
      · rw [valP_loop hl hw]; exact h
      · rw [valP_big hl hw]; exact h
  | succ d ih =>
    intro way done n h
    cases hl : lookP done n with
    | some v => rw [valP_done hl]; exact h
    | none =>
      by_cases hw : n ∈ way
      · rw [valP_loop hl hw]; exact h
      · rw [valP_go hl hw]
        have h2 : WayOK (way ++ [n]) done := by
          intro m hm
          rcases List.mem_append.1 hm with hm | hm
          · exact h m hm
          · simp at hm; subst hm; exact hl
        have h3 := txtP_ind (L := L) (me := n) (val := fun done m => valP L d (way ++ [n]) done m) (WayOK (way ++ [n])) (fun done m _ hp => ih _ _ _ hp) _ ((lookP L n).getD []) [] done (Nat.le_refl _) h2
        cases hx : txtP (fun done m => valP L d (way ++ [n]) done m) L n done [] ((lookP L n).getD []) with
        | mk x dn =>
          rw [hx] at h3
          cases x with
          | ok v =>
            intro m hm
            show lookP (dn ++ [(n, v)]) m = none
            rw [lookP_snoc dn n v m (h3 n (by simp)), if_neg (fun e : m = n => hw (by rw [← e]; exact hm))]
            exact h3 m (by simp [hm])
          | loop n2 => intro m hm; exact h3 m (by simp [hm])
          | big n2 => intro m hm; exact h3 m (by simp [hm])
theorem txtP_way {L : PL} {d : Nat} {way : List Bs} {me : Bs} {done : PL} {acc s : Bs} (h : WayOK way done) : WayOK way (txtP (fun done m => valP L d way done m) L me done acc s).2 :=
  txtP_ind (WayOK way) (fun _ _ _ hp => valP_way _ _ _ _ hp) _ _ _ _ (Nat.le_refl _) h
end Go.Proofs.Ytpgdioopkcfjdaa
