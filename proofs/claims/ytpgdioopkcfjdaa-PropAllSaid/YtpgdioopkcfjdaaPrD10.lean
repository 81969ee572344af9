/- How many values are remembered at most. -/
import Derived.Test.YtpgdioopkcfjdaaPrD9
namespace Go.Proofs.Ytpgdioopkcfjdaa

def DoneOK (L D : PL) : Prop := (D.map (·.1)).Nodup ∧ (∀ p ∈ D, (lookP L p.1).isSome = true) ∧ ∀ p ∈ D, p.2.length ≤ 4096
theorem nodup_len : ∀ (A B : List Bs), A.Nodup → (∀ a ∈ A, a ∈ B) → A.length ≤ B.length
  | [], _, _, _ => Nat.zero_le _
  | a :: A, B, hn, hs => by
    rw [List.nodup_cons] at hn
    have ha := hs a (by simp)
    have h := nodup_len A (B.erase a) hn.2 fun x hx => (List.mem_erase_of_ne (by rintro rfl; exact hn.1 hx)).2 (hs x (by simp [hx]))
    rw [List.length_erase_of_mem ha] at h
    have := List.length_pos_of_mem ha
    simp only [List.length_cons]
    omega
theorem look_some_mem {L : PL} {n : Bs} (h : (lookP L n).isSome = true) : n ∈ L.map (·.1) := by
  rw [Option.isSome_iff_exists] at h
  obtain ⟨v, hv⟩ := h
  exact List.mem_map.2 ⟨_, look_mem hv, rfl⟩
theorem done_len {L D : PL} (h : DoneOK L D) : D.length ≤ L.length := by
  have := nodup_len (D.map (·.1)) (L.map (·.1)) h.1 fun a ha => by
    obtain ⟨p, hp, rfl⟩ := List.mem_map.1 ha
    exact look_some_mem (h.2.1 p hp)
  simpa using this
theorem doneOK_nil (L : PL) : DoneOK L [] := ⟨List.nodup_nil, by simp, by simp⟩
theorem doneOK_snoc {L D : PL} {n v : Bs} (h : DoneOK L D) (hn : lookP D n = none) (hl : (lookP L n).isSome = true) (hvl : v.length ≤ 4096) : DoneOK L (D ++ [(n, v)]) := by
  refine ⟨?_, fun p hp => ?_, fun p hp => ?_⟩
  · rw [List.map_append, List.nodup_append]
    refine ⟨h.1, by simp, ?_⟩
    intro a ha b hb
    rw [List.map_singleton, List.mem_singleton] at hb
    obtain ⟨p, hp, rfl⟩ := List.mem_map.1 ha
    rw [hb]
    exact look_none hn p hp
  · rcases List.mem_append.1 hp with hp | hp
    · exact h.2.1 p hp
    · rw [List.mem_singleton.1 hp]; exact hl
  · rcases List.mem_append.1 hp with hp | hp
    · exact h.2.2 p hp
    · rw [List.mem_singleton.1 hp]; exact hvl
theorem txtP_small {val : PL → Bs → Ans × PL} {L : PL} {me : Bs} : ∀ (k : Nat) (s acc : Bs) (D D' : PL) (y : Bs), s.length ≤ k → txtP val L me D acc s = (.ok y, D') → y.length ≤ 4096 := by
  intro k
  induction k with
  | zero =>
    intro s acc D D' y hk h
    have : s = [] := List.eq_nil_of_length_eq_zero (by omega)
    subst this
    rw [txtP_none rfl] at h
    split at h
    · cases h
    · cases h; omega
  | succ k ih =>
    intro s acc D D' y hk h
    cases hc : cutP s with
    | none =>
      rw [txtP_none hc] at h
      split at h
      · cases h
      · cases h; omega
    | some x =>
      obtain ⟨a, n, r⟩ := x
      have hlt := cutP_lt hc
      rw [txtP_some hc] at h
      split at h
      · cases h
      · split at h
        · split at h
          · cases h
          · exact ih r _ _ _ _ (by omega) h
        · rename_i hq h9
          injection h with h1 h2
          exact (hq _ h1).elim
theorem valP_doneOK {L : PL} : ∀ (d : Nat) (way : List Bs) (D : PL) (n : Bs), WayOK way D → DoneOK L D → (lookP L n).isSome = true → DoneOK L (valP L d way D n).2 := by
  intro d
  induction d with
  | zero =>
    intro way D n hw hd hl
    cases hv : lookP D n with
    | some v => rw [valP_done hv]; exact hd
    | none =>
      by_cases hin : n ∈ way
      · rw [valP_loop hv hin]; exact hd
      · rw [valP_big hv hin]; exact hd
  | succ d ih =>
    intro way D n hw hd hl
    cases hv : lookP D n with
    | some v => rw [valP_done hv]; exact hd
    | none =>
      by_cases hin : n ∈ way
      · rw [valP_loop hv hin]; exact hd
      · rw [valP_go hv hin]
        have h := txtP_ind (val := fun done m => valP L d (way ++ [n]) done m) (L := L) (me := n) (P := fun D => WayOK (way ++ [n]) D ∧ DoneOK L D) (fun done m hm hp => ⟨valP_way d _ done m hp.1, ih _ done m hp.1 hp.2 hm⟩) _ ((lookP L n).getD []) [] D (Nat.le_refl _) ⟨wayOK_snoc hw hv, hd⟩
        cases hx : txtP (fun done m => valP L d (way ++ [n]) done m) L n D [] ((lookP L n).getD []) with
        | mk x D1 =>
          rw [hx] at h
          cases x with
          | ok v => exact doneOK_snoc h.2 (h.1 n (by simp)) hl (txtP_small _ _ _ _ _ _ (Nat.le_refl _) hx)
          | loop m => exact h.2
          | big m => exact h.2
theorem txtP_doneOK {L : PL} {d : Nat} {way : List Bs} {D : PL} {me s : Bs} (hw : WayOK way D) (hd : DoneOK L D) : DoneOK L (txtP (fun done m => valP L d way done m) L me D [] s).2 :=
  (txtP_ind (val := fun done m => valP L d way done m) (L := L) (me := me) (P := fun D => WayOK way D ∧ DoneOK L D) (fun done m hm hp => ⟨valP_way d _ done m hp.1, valP_doneOK d _ done m hp.1 hp.2 hm⟩) _ s [] D (Nat.le_refl _) ⟨hw, hd⟩).2

end Go.Proofs.Ytpgdioopkcfjdaa
