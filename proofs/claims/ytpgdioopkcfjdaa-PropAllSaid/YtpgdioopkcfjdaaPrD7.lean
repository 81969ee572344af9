/- A text put together once more, with more ahead of it. Plain. -/
import Derived.Test.YtpgdioopkcfjdaaPrD4
namespace Go.Proofs.Ytpgdioopkcfjdaa

def Sub (D E : PL) : Prop := ∀ n v, lookP D n = some v → lookP E n = some v
theorem Sub.refl (D : PL) : Sub D D := fun _ _ h => h
theorem Sub.trans {A B C : PL} (h : Sub A B) (k : Sub B C) : Sub A C := fun n v e => k n v (h n v e)
theorem sub_snoc (D : PL) (p : Bs × Bs) : Sub D (D ++ [p]) := fun n v h => by rw [lookP_append, h]; rfl
theorem valP_sub {L : PL} : ∀ (d : Nat) (way : List Bs) (D : PL) (n : Bs), Sub D (valP L d way D n).2 := by
  intro d
  induction d with
  | zero =>
    intro way D n
    cases hl : lookP D n with
    | some v => rw [valP_done hl]; exact .refl _
    | none =>
      by_cases hw : n ∈ way
      · rw [valP_loop hl hw]; exact .refl _
      · rw [valP_big hl hw]; exact .refl _
  | succ d ih =>
    intro way D n
    cases hl : lookP D n with
    | some v => rw [valP_done hl]; exact .refl _
    | none =>
      by_cases hw : n ∈ way
      · rw [valP_loop hl hw]; exact .refl _
      · rw [valP_go hl hw]
        have h3 := txtP_ind (L := L) (me := n) (val := fun done m => valP L d (way ++ [n]) done m) (Sub D) (fun done m _ hp => hp.trans (ih _ _ _)) _ ((lookP L n).getD []) [] D (Nat.le_refl _) (.refl _)
        cases hx : txtP (fun done m => valP L d (way ++ [n]) done m) L n D [] ((lookP L n).getD []) with
        | mk x dn =>
          rw [hx] at h3
          cases x with
          | ok v => exact h3.trans (sub_snoc _ _)
          | loop n2 => exact h3
          | big n2 => exact h3
theorem txtP_sub {L : PL} {d : Nat} {way : List Bs} {me : Bs} {D : PL} {acc s : Bs} : Sub D (txtP (fun done m => valP L d way done m) L me D acc s).2 :=
  txtP_ind (Sub D) (fun _ _ _ hp => hp.trans (valP_sub _ _ _ _)) _ _ _ _ (Nat.le_refl _) (.refl _)
theorem wayOK_snoc {way : List Bs} {D : PL} {n : Bs} (h : WayOK way D) (hl : lookP D n = none) : WayOK (way ++ [n]) D := by
  intro m hm
  rcases List.mem_append.1 hm with hm | hm
  · exact h m hm
  · simp at hm; subst hm; exact hl
theorem valP_mem {L : PL} {d : Nat} {way : List Bs} {D D1 : PL} {n v : Bs} (hw : WayOK way D) (h : valP L d way D n = (.ok v, D1)) : lookP D1 n = some v := by
  cases hl : lookP D n with
  | some v' => rw [valP_done hl] at h; cases h; exact hl
  | none =>
    by_cases hin : n ∈ way
    · rw [valP_loop hl hin] at h; cases h
    · cases d with
      | zero => rw [valP_big hl hin] at h; cases h
      | succ d =>
        rw [valP_go hl hin] at h
        have h3 := txtP_way (L := L) (d := d) (me := n) (acc := []) (s := (lookP L n).getD []) (wayOK_snoc hw hl)
        cases hx : txtP (fun done m => valP L d (way ++ [n]) done m) L n D [] ((lookP L n).getD []) with
        | mk x dn =>
          rw [hx] at h h3
          cases x with
          | ok v' =>
            cases h
            rw [lookP_snoc dn n _ n (h3 n (by simp)), if_pos rfl]
          | loop n2 => cases h
          | big n2 => cases h
/-- what has been put together stays ahead -/
theorem txtP_ext {val : PL → Bs → Ans × PL} {L : PL} {me : Bs} : ∀ (k : Nat) (s acc : Bs) (D D' : PL) (y : Bs), s.length ≤ k → txtP val L me D acc s = (.ok y, D') → ∃ t, y = acc ++ t := by
  intro k
  induction k with
  | zero =>
    intro s acc D D' y hk h
    have : s = [] := List.eq_nil_of_length_eq_zero (by omega)
    subst this
    rw [txtP_none rfl] at h
    split at h <;> cases h
    exact ⟨_, rfl⟩
  | succ k ih =>
    intro s acc D D' y hk h
    cases hc : cutP s with
    | none =>
      rw [txtP_none hc] at h
      split at h <;> cases h
      exact ⟨_, rfl⟩
    | some x =>
      obtain ⟨a, n, r⟩ := x
      have hlt := cutP_lt hc
      rw [txtP_some hc] at h
      split at h
      · cases h
      · split at h
        · rename_i v dn heq
          split at h
          · cases h
          · obtain ⟨t, ht⟩ := ih _ _ _ _ _ (by omega) h
            exact ⟨a ++ v ++ t, by rw [ht]; simp [List.append_assoc]⟩
        · rename_i hne heq
          cases h
          first
            | exact (hne _ _ heq).elim
            | exact (hne _ _ rfl).elim
            | exact (hne _ rfl).elim
section
variable {L : PL} {d : Nat} {way : List Bs} {me : Bs}
theorem rerun_ok : ∀ (k : Nat) (s acc : Bs) (D D' : PL) (y : Bs), s.length ≤ k → WayOK way D → txtP (fun done m => valP L d way done m) L me D acc s = (.ok y, D') → ∀ E, Sub D' E → ∀ p : Bs,
    txtP (fun done m => valP L d way done m) L me E (p ++ acc) s = if 4096 < (p ++ y).length then (.big me, E) else (.ok (p ++ y), E) := by
  intro k
  induction k with
  | zero =>
    intro s acc D D' y hk hw h E hE p
    have : s = [] := List.eq_nil_of_length_eq_zero (by omega)
    subst this
    rw [txtP_none rfl] at h ⊢
    split at h <;> cases h
    rw [List.append_assoc]
  | succ k ih =>
    intro s acc D D' y hk hw h E hE p
    cases hc : cutP s with
    | none =>
      rw [txtP_none hc] at h ⊢
      split at h <;> cases h
      rw [List.append_assoc]
    | some x =>
      obtain ⟨a, n, r⟩ := x
      have hlt := cutP_lt hc
      have key : ∀ t, y = acc ++ a ++ t → 4096 < (p ++ acc ++ a).length → 4096 < (p ++ y).length := by
        rintro t rfl h; simp at h ⊢; omega
      by_cases hg : 4096 < (acc ++ a).length
      · rw [txtP_b1 hc hg] at h; cases h
      cases hlk : (lookP L n).isSome with
      | true =>
        cases hv : valP L d way D n with
        | mk x D1 =>
          cases x with
          | loop n2 => rw [txtP_vl hc hg hlk hv] at h; cases h
          | big n2 => rw [txtP_vg hc hg hlk hv] at h; cases h
          | ok v =>
            by_cases hg2 : 4096 < (acc ++ a ++ v).length
            · rw [txtP_vb hc hg hlk hv hg2] at h; cases h
            · rw [txtP_vo hc hg hlk hv hg2] at h
              obtain ⟨t, ht⟩ := txtP_ext _ _ _ _ _ _ (Nat.le_refl _) h
              have hw1 := valP_way (L := L) d way D n hw
              rw [hv] at hw1
              have hsub := txtP_sub (L := L) (d := d) (way := way) (me := me) (D := D1) (acc := acc ++ a ++ v) (s := r)
              rw [h] at hsub
              have hE1 := (hsub.trans hE) n v (valP_mem hw hv)
              have hvE : valP L d way E n = (.ok v, E) := valP_done hE1
              have e2 : p ++ acc ++ a ++ v = p ++ (acc ++ a ++ v) := by simp [List.append_assoc]
              by_cases g1 : 4096 < (p ++ acc ++ a).length
              · rw [txtP_b1 hc g1, if_pos (key (v ++ t) (by rw [ht]; simp [List.append_assoc]) g1)]
              · by_cases g2 : 4096 < (p ++ acc ++ a ++ v).length
                · rw [txtP_vb hc g1 hlk hvE g2, if_pos (by rw [ht]; simp at g2 ⊢; omega)]
                · rw [txtP_vo hc g1 hlk hvE g2, e2]
                  exact ih r _ D1 D' y (by omega) hw1 h E hE p
      | false =>
        by_cases hg2 : 4096 < (acc ++ a ++ 36 :: 123 :: (n ++ [125])).length
        · rw [txtP_ub hc hg hlk hg2] at h; cases h
        · rw [txtP_uo hc hg hlk hg2] at h
          obtain ⟨t, ht⟩ := txtP_ext _ _ _ _ _ _ (Nat.le_refl _) h
          have e2 : p ++ acc ++ a ++ 36 :: 123 :: (n ++ [125]) = p ++ (acc ++ a ++ 36 :: 123 :: (n ++ [125])) := by simp [List.append_assoc]
          by_cases g1 : 4096 < (p ++ acc ++ a).length
          · rw [txtP_b1 hc g1, if_pos (key (36 :: 123 :: (n ++ [125]) ++ t) (by rw [ht]; simp [List.append_assoc]) g1)]
          · by_cases g2 : 4096 < (p ++ acc ++ a ++ 36 :: 123 :: (n ++ [125])).length
            · rw [txtP_ub hc g1 hlk g2, if_pos (by rw [ht]; simp at g2 ⊢; omega)]
            · rw [txtP_uo hc g1 hlk g2, e2]
              exact ih r _ D D' y (by omega) hw h E hE p
def notOk : Ans → Prop
  | .ok _ => False
  | _ => True
theorem rerun_bad (hV : ∀ (D D1 : PL) (n : Bs) (x : Ans), WayOK way D → valP L d way D n = (x, D1) → notOk x → valP L d way D1 n = (x, D1)) : ∀ (k : Nat) (s acc : Bs) (D D' : PL) (x : Ans), s.length ≤ k → WayOK way D → txtP (fun done m => valP L d way done m) L me D acc s = (x, D') → notOk x → ∀ p : Bs,
    ∃ x', txtP (fun done m => valP L d way done m) L me D' (p ++ acc) s = (x', D') ∧ (x' = x ∨ x' = .big me) ∧ (p = [] → x' = x) := by
  intro k
  induction k with
  | zero =>
    intro s acc D D' x hk hw h hx p
    have : s = [] := List.eq_nil_of_length_eq_zero (by omega)
    subst this
    rw [txtP_none rfl] at h ⊢
    split at h
    · cases h
      exact ⟨.big me, by rw [if_pos (by simp at *; omega)], .inl rfl, fun _ => rfl⟩
    · cases h; exact hx.elim
  | succ k ih =>
    intro s acc D D' x hk hw h hx p
    cases hc : cutP s with
    | none =>
      rw [txtP_none hc] at h ⊢
      split at h
      · cases h
        exact ⟨.big me, by rw [if_pos (by simp at *; omega)], .inl rfl, fun _ => rfl⟩
      · cases h; exact hx.elim
    | some q =>
      obtain ⟨a, n, r⟩ := q
      have hlt := cutP_lt hc
      by_cases hg : 4096 < (acc ++ a).length
      · rw [txtP_b1 hc hg] at h
        cases h
        exact ⟨.big me, by rw [txtP_b1 hc (by simp at *; omega)], .inl rfl, fun _ => rfl⟩
      by_cases g1 : 4096 < (p ++ acc ++ a).length
      · exact ⟨.big me, by rw [txtP_b1 hc g1], .inr rfl, fun e => by subst e; exact absurd g1 hg⟩
      cases hlk : (lookP L n).isSome with
      | true =>
        cases hv : valP L d way D n with
        | mk q D1 =>
          cases q with
          | loop n2 =>
            rw [txtP_vl hc hg hlk hv] at h
            cases h
            exact ⟨.loop n2, by rw [txtP_vl hc g1 hlk (hV D _ n _ hw hv trivial)], .inl rfl, fun _ => rfl⟩
          | big n2 =>
            rw [txtP_vg hc hg hlk hv] at h
            cases h
            exact ⟨.big n2, by rw [txtP_vg hc g1 hlk (hV D _ n _ hw hv trivial)], .inl rfl, fun _ => rfl⟩
          | ok v =>
            have hm := valP_mem hw hv
            by_cases hg2 : 4096 < (acc ++ a ++ v).length
            · rw [txtP_vb hc hg hlk hv hg2] at h
              cases h
              exact ⟨.big me, by rw [txtP_vb hc g1 hlk (valP_done hm) (by simp at *; omega)], .inl rfl, fun _ => rfl⟩
            · rw [txtP_vo hc hg hlk hv hg2] at h
              have hw1 := valP_way (L := L) d way D n hw
              rw [hv] at hw1
              have hsub := txtP_sub (L := L) (d := d) (way := way) (me := me) (D := D1) (acc := acc ++ a ++ v) (s := r)
              rw [h] at hsub
              have hvE : valP L d way D' n = (.ok v, D') := valP_done (hsub n v hm)
              have e2 : p ++ acc ++ a ++ v = p ++ (acc ++ a ++ v) := by simp [List.append_assoc]
              by_cases g2 : 4096 < (p ++ acc ++ a ++ v).length
              · exact ⟨.big me, by rw [txtP_vb hc g1 hlk hvE g2], .inr rfl, fun e => by subst e; exact absurd g2 hg2⟩
              · obtain ⟨x', h1, h2, h3⟩ := ih r _ D1 D' x (by omega) hw1 h hx p
                exact ⟨x', by rw [txtP_vo hc g1 hlk hvE g2, e2]; exact h1, h2, h3⟩
      | false =>
        by_cases hg2 : 4096 < (acc ++ a ++ 36 :: 123 :: (n ++ [125])).length
        · rw [txtP_ub hc hg hlk hg2] at h
          cases h
          exact ⟨.big me, by rw [txtP_ub hc g1 hlk (by simp at *; omega)], .inl rfl, fun _ => rfl⟩
        · rw [txtP_uo hc hg hlk hg2] at h
          have e2 : p ++ acc ++ a ++ 36 :: 123 :: (n ++ [125]) = p ++ (acc ++ a ++ 36 :: 123 :: (n ++ [125])) := by simp [List.append_assoc]
          by_cases g2 : 4096 < (p ++ acc ++ a ++ 36 :: 123 :: (n ++ [125])).length
          · exact ⟨.big me, by rw [txtP_ub hc g1 hlk g2], .inr rfl, fun e => by subst e; exact absurd g2 hg2⟩
          · obtain ⟨x', h1, h2, h3⟩ := ih r _ D D' x (by omega) hw h hx p
            exact ⟨x', by rw [txtP_uo hc g1 hlk g2, e2]; exact h1, h2, h3⟩
end
theorem rerun_val {L : PL} : ∀ (d : Nat) (way : List Bs) (D D1 : PL) (n : Bs) (x : Ans), WayOK way D → valP L d way D n = (x, D1) → notOk x → valP L d way D1 n = (x, D1) := by
  intro d
  induction d with
  | zero =>
    intro way D D1 n x hw h hx
    cases hl : lookP D n with
    | some v => rw [valP_done hl] at h; cases h; exact hx.elim
    | none =>
      by_cases hin : n ∈ way
      · have h' := h; rw [valP_loop hl hin] at h'; cases h'; exact h
      · have h' := h; rw [valP_big hl hin] at h'; cases h'; exact h
  | succ d ih =>
    intro way D D1 n x hw h hx
    cases hl : lookP D n with
    | some v => rw [valP_done hl] at h; cases h; exact hx.elim
    | none =>
      by_cases hin : n ∈ way
      · have h' := h; rw [valP_loop hl hin] at h'; cases h'; exact h
      · rw [valP_go hl hin] at h
        have hw2 := wayOK_snoc hw hl
        have h3 := txtP_way (L := L) (d := d) (me := n) (acc := []) (s := (lookP L n).getD []) hw2
        cases hq : txtP (fun done m => valP L d (way ++ [n]) done m) L n D [] ((lookP L n).getD []) with
        | mk q dn =>
          rw [hq] at h h3
          have hb : notOk q → (x, D1) = (q, dn) := fun hn => by cases q with
            | ok v => exact hn.elim
            | loop n2 => exact h.symm
            | big n2 => exact h.symm
          have hn : notOk q := by cases q with
            | ok v => cases h; exact hx
            | loop n2 => trivial
            | big n2 => trivial
          have he := hb hn
          cases he
          have hl2 : lookP D1 n = none := h3 n (by simp)
          rw [valP_go hl2 hin]
          obtain ⟨x', h4, h5, h6⟩ := rerun_bad (me := n) (ih (way ++ [n])) _ _ [] D D1 x (Nat.le_refl _) hw2 hq hn []
          rw [List.nil_append] at h4
          rw [h4, h6 rfl]
          cases x with
          | ok v => exact hx.elim
          | loop n2 => rfl
          | big n2 => rfl
end Go.Proofs.Ytpgdioopkcfjdaa
