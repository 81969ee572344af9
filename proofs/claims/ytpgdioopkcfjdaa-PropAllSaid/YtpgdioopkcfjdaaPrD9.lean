/- What PropTurned says of the plain function: the order of properties of different names, and a further one that nothing reaches. -/
import Derived.Test.YtpgdioopkcfjdaaPrD8
namespace Go.Proofs.Ytpgdioopkcfjdaa

section
variable {L L' : PL} {G : Bs → Prop}
theorem txtP_congr {val val' : PL → Bs → Ans × PL} {me : Bs} (hl : ∀ n, G n → lookP L n = lookP L' n) (hv : ∀ D n, G n → val D n = val' D n) : ∀ (k : Nat) (s acc : Bs) (D : PL), s.length ≤ k → (∀ n ∈ refsP s, G n) → txtP val L me D acc s = txtP val' L' me D acc s := by
  intro k
  induction k with
  | zero =>
    intro s acc D hk _
    have : s = [] := List.eq_nil_of_length_eq_zero (by omega)
    subst this
    rw [txtP_none rfl, txtP_none rfl]
  | succ k ih =>
    intro s acc D hk hr
    cases hc : cutP s with
    | none => rw [txtP_none hc, txtP_none hc]
    | some x =>
      obtain ⟨a, n, r⟩ := x
      have hlt := cutP_lt hc
      rw [refs_some hc] at hr
      have hn := hr n (by simp)
      rw [txtP_some hc, txtP_some hc, hl n hn, hv D n hn]
      split
      · rfl
      · split
        · split
          · rfl
          · exact ih r _ _ (by omega) (fun m hm => hr m (by simp [hm]))
        · rfl
theorem valP_congr (hl : ∀ n, G n → lookP L n = lookP L' n) (hc : ∀ n v, G n → lookP L n = some v → ∀ m ∈ refsP v, G m) : ∀ (d : Nat) (way : List Bs) (D : PL) (n : Bs), G n → valP L d way D n = valP L' d way D n := by
  intro d
  induction d with
  | zero => intro way D n hn; unfold valP; rfl
  | succ d ih =>
    intro way D n hn
    have h : txtP (fun done m => valP L d (way ++ [n]) done m) L n D [] ((lookP L n).getD []) = txtP (fun done m => valP L' d (way ++ [n]) done m) L' n D [] ((lookP L' n).getD []) := by
      rw [← hl n hn]
      refine txtP_congr hl (fun D m hm => ih _ D m hm) _ _ _ _ (Nat.le_refl _) ?_
      intro m hm
      cases hv : lookP L n with
      | none => rw [hv] at hm; rw [Option.getD_none, refs_none rfl] at hm; cases hm
      | some v => rw [hv] at hm; exact hc n v hn hv m hm
    unfold valP
    dsimp only
    rw [h]
theorem exp_congr (hl : ∀ n, G n → lookP L n = lookP L' n) (hc : ∀ n v, G n → lookP L n = some v → ∀ m ∈ refsP v, G m) (s : Bs) (hs : ∀ n ∈ refsP s, G n) :
    txtP (fun done m => valP L 32 [] done m) L [] [] [] s = txtP (fun done m => valP L' 32 [] done m) L' [] [] [] s :=
  txtP_congr hl (fun D m hm => valP_congr hl hc 32 [] D m hm) _ _ _ _ (Nat.le_refl _) hs
end
def ownStep (o : PL) (p : Bs × Bs) : PL := if p.2.length ≤ 100 ∧ lookP o p.1 = none then o ++ [p] else o
def ownP (L : PL) : PL := (L.take 20).foldl ownStep []
theorem ownP_succ (L : PL) (k : Nat) (h : k < L.length) (h2 : k < 20) : ownP (L.take (k + 1)) = ownStep (ownP (L.take k)) L[k] := by
  unfold ownP
  rw [List.take_take, List.take_take, Nat.min_eq_right (by omega), Nat.min_eq_right (by omega), List.take_succ_eq_append_getElem h, List.foldl_append]
  rfl
theorem ownP_stay (L : PL) (k : Nat) (h2 : 20 ≤ k) : ownP (L.take (k + 1)) = ownP (L.take k) := by
  unfold ownP
  rw [List.take_take, List.take_take, Nat.min_eq_left (by omega), Nat.min_eq_left (by omega)]
theorem own_fold (P : PL → Prop) (h : ∀ o p, P o → P (ownStep o p)) : ∀ (L o : PL), P o → P (L.foldl ownStep o)
  | [], _, ho => ho
  | p :: L, o, ho => own_fold P h L _ (h o p ho)
theorem own_len : ∀ (L o : PL), (L.foldl ownStep o).length ≤ o.length + L.length
  | [], o => by simp
  | p :: L, o => by
    have := own_len L (ownStep o p)
    have h2 : (ownStep o p).length ≤ o.length + 1 := by unfold ownStep; split <;> simp
    simp only [List.foldl_cons, List.length_cons]; omega
theorem ownP_length (L : PL) : (ownP L).length ≤ 20 := by
  have := own_len (L.take 20) []
  unfold ownP
  simp at this ⊢
  omega
theorem ownP_small (L : PL) : ∀ p ∈ ownP L, p.2.length ≤ 100 := by
  refine own_fold (fun o => ∀ p ∈ o, p.2.length ≤ 100) ?_ _ _ (by simp)
  intro o p ho
  unfold ownStep
  split
  · rename_i h
    intro q hq
    rcases List.mem_append.1 hq with hq | hq
    · exact ho q hq
    · rw [List.mem_singleton.1 hq]; exact h.1
  · exact ho
theorem look_none {L : PL} {n : Bs} (h : lookP L n = none) : ∀ p ∈ L, p.1 ≠ n := by
  intro p hp e
  unfold lookP at h
  rw [Option.map_eq_none_iff, List.find?_eq_none] at h
  have := h p hp
  rw [e] at this
  simp at this
theorem look_mem {L : PL} {n v : Bs} (h : lookP L n = some v) : (n, v) ∈ L := by
  unfold lookP at h
  rw [Option.map_eq_some_iff] at h
  obtain ⟨p, hp, rfl⟩ := h
  have h1 := List.mem_of_find?_eq_some hp
  have h2 := List.find?_some hp
  have h3 : p.1 = n := by simpa using h2
  rw [← h3]; exact h1
theorem ownP_uniq (L : PL) : (ownP L).Pairwise fun p q => p.1 ≠ q.1 := by
  refine own_fold (fun o => o.Pairwise fun p q => p.1 ≠ q.1) ?_ _ _ List.Pairwise.nil
  intro o p ho
  unfold ownStep
  split
  · rename_i h
    rw [List.pairwise_append]
    refine ⟨ho, List.pairwise_singleton _ _, ?_⟩
    intro a ha b hb
    rw [List.mem_singleton.1 hb]
    exact look_none h.2 a ha
  · exact ho
theorem look_turn {X : PL} (h : X.Pairwise fun p q => p.1 ≠ q.1) (k : Nat) (n : Bs) : lookP X n = lookP (X.drop k ++ X.take k) n := by
  have h1 : lookP X n = lookP (X.take k ++ X.drop k) n := by rw [List.take_append_drop]
  rw [h1, lookP_append, lookP_append]
  rw [← List.take_append_drop k X, List.pairwise_append] at h
  cases ha : lookP (X.take k) n with
  | none => cases lookP (X.drop k) n <;> rfl
  | some a =>
    cases hb : lookP (X.drop k) n with
    | none => rfl
    | some b => exact absurd (show ((n, a) : Bs × Bs).1 = ((n, b) : Bs × Bs).1 from rfl) (h.2.2 _ (look_mem ha) _ (look_mem hb))
theorem exp_turn (L : PL) (k : Nat) (s : Bs) :
    txtP (fun done m => valP ((ownP L).drop k ++ (ownP L).take k) 32 [] done m) ((ownP L).drop k ++ (ownP L).take k) [] [] [] s = txtP (fun done m => valP (ownP L) 32 [] done m) (ownP L) [] [] [] s :=
  (exp_congr (G := fun _ => True) (fun n _ => look_turn (ownP_uniq L) k n) (fun _ _ _ _ _ _ => trivial) s (fun _ _ => trivial)).symm
abbrev nevN : Bs := [110, 101, 118, 101, 114, 32, 123]
abbrev nevV : Bs := [36, 123, 110, 101, 118, 101, 114, 32, 123, 125]
theorem exp_more {X : PL} {s : Bs} (h1 : ∀ n ∈ refsP s, n ≠ nevN) (h2 : ∀ p ∈ X, ∀ m ∈ refsP p.2, m ≠ nevN) :
    txtP (fun done m => valP ((nevN, nevV) :: X) 32 [] done m) ((nevN, nevV) :: X) [] [] [] s = txtP (fun done m => valP X 32 [] done m) X [] [] [] s := by
  refine (exp_congr (G := fun n => n ≠ nevN) ?_ ?_ s h1).symm
  · intro n hn
    unfold lookP
    rw [List.find?_cons_of_neg (by simpa using fun e => hn e.symm)]
  · intro n v _ hv m hm
    exact h2 _ (look_mem hv) m hm
end Go.Proofs.Ytpgdioopkcfjdaa
