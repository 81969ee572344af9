/- chars: the reference's answer of a reference is the program's. Plain. -/
import Derived.Test.YtnkbeaipgadphaaChD5
namespace Go.Proofs.Ytnkbeaipgadphaa
open C01

theorem num_same {s : ByteArray} {f : Nat} {ahead base : Int} (hf : f ≤ s.size) (ha : ahead = f) : numR (s.extract f s.size) ahead base = cv (numR2 s f base) := by
  subst ha
  have hsz : (s.extract f s.size).size = s.size - f := by rw [ByteArray.size_extract]; omega
  have hle := digN_le s f base hf
  have hd : spanN (digB base) (s.extract f s.size).data.toList = digN s f base := rfl
  unfold numR numR2
  rw [hd, hsz]
  by_cases h1 : 8 < digN s f base
  · rw [if_pos h1, if_pos h1]; rfl
  rw [if_neg h1, if_neg h1]
  by_cases h2 : f + digN s f base = s.size
  · rw [if_pos h2, if_pos (by omega)]; rfl
  rw [if_neg h2, if_neg (by omega), tail_byte (by omega)]
  by_cases h3 : byteN s (f + digN s f base) ≠ 59
  · rw [if_pos h3, if_pos (.inr h3)]; rfl
  rw [if_neg h3]
  by_cases h4 : digN s f base = 0
  · rw [if_pos h4, if_pos (.inl h4)]; rfl
  rw [if_neg h4, if_neg (fun h => h.elim h4 h3)]
  by_cases h5 : letterOk (numK base (s.extract f s.size) (digN s f base)) = true
  · rw [if_pos h5, if_pos h5]
    simp [cv, errK]
  · rw [if_neg h5, if_neg h5]; rfl
theorem ext2 {s : ByteArray} (h : 3 ≤ s.size) : (s.extract 2 s.size).extract 1 (s.extract 2 s.size).size = s.extract 3 s.size := by
  rw [ByteArray.extract_extract, ByteArray.size_extract]
  congr 1
  omega
theorem begun_iff {l : List UInt8} : begun ⟨l.toArray⟩ = true ↔ ∃ k, k < 5 ∧ l <+: fiveL k := by
  constructor
  · intro h
    unfold begun at h
    rw [List.any_eq_true] at h
    obtain ⟨x, hx, hp⟩ := h
    obtain ⟨k, hk, rfl⟩ := List.getElem_of_mem hx
    refine ⟨k, hk, ?_⟩
    unfold fiveL
    rw [List.getD_eq_getElem?_getD, List.getElem?_eq_getElem hk]
    exact List.isPrefixOf_iff_prefix.1 hp
  · rintro ⟨k, hk, h⟩
    exact begun_yes hk (List.isPrefixOf_iff_prefix.2 h)
theorem firstN_const {α : Type} {f : Nat → Option α} {n k : Nat} {x : α} (hk : k < n) (h : f k = some x) (hx : ∀ j, j < n → f j = none ∨ f j = some x) : firstN f n = some x := by
  cases e : firstN f n with
  | none => rw [firstN_none e k hk] at h; cases h
  | some y =>
    obtain ⟨j, hj, h1, _⟩ := firstN_some e
    rcases hx j hj with h2 | h2
    · rw [h2] at h1; cases h1
    · rw [← h2, h1]
theorem refR_same (s : ByteArray) : refR s = cv (refR2 s) := by
  rcases hL : s.data.toList with _ | ⟨x, l⟩
  · rw [bytes_of hL]; decide +kernel
  have hsz := size_of hL
  rw [List.length_cons] at hsz
  have hne : ¬ s = ⟨#[]⟩ := by rintro rfl; cases hL
  have hb0 := byte0 hL
  have ht := tail1 hL
  have hpc := fun k (hk : k < 5) => pre_cons hL hk
  by_cases hx : x = 38
  case neg =>
    have hr : refR s = (⟨#[]⟩, 0, 12) := by
      unfold refR
      rw [if_neg hne, if_pos]
      rw [hb0]
      intro e
      exact hx (UInt8.toNat_inj.1 e)
    have h2 : refR2 s = (⟨#[]⟩, 0, 2) := by
      unfold refR2
      rw [firstN_all (fun k hk => wordF_none (fun h => hx ((hpc k hk).1.1 h).1) (fun h => hx ((hpc k hk).2.1 h).1))]
      refine rest_none fun h => ?_
      rw [pre_iff, hL] at h
      exact hx (List.cons_prefix_cons.1 h).1.symm
    rw [hr, h2]; rfl
  subst hx
  have hr0 : refR s = (if Lib.hasPrefix s.data.toList [38, 35] then numberR (s.extract 2 s.size) 2 else
      if 1 + spanN lowB (s.extract 1 s.size).data.toList = s.size then (if begun (s.extract 1 (1 + spanN lowB (s.extract 1 s.size).data.toList)) then (⟨#[]⟩, 0, 13) else (⟨#[]⟩, 0, 12))
      else if namedS (s.extract 1 (1 + spanN lowB (s.extract 1 s.size).data.toList)) ≠ ⟨#[]⟩ ∧ byteN s (1 + spanN lowB (s.extract 1 s.size).data.toList) = 59 then (namedS (s.extract 1 (1 + spanN lowB (s.extract 1 s.size).data.toList)), (spanN lowB (s.extract 1 s.size).data.toList : Nat) + 2, 0) else (⟨#[]⟩, 0, 12)) := by
    unfold refR
    rw [if_neg hne, if_neg (by rw [hb0]; decide)]
  rw [ht] at hr0
  by_cases h35 : pre s ⟨#[38, 35]⟩ = true
  · -- a number
    have hp : Lib.hasPrefix s.data.toList [38, 35] = true := h35
    rw [if_pos hp] at hr0
    have hl : ∃ m, l = 35 :: m := by
      rw [pre_iff, hL] at h35
      obtain ⟨_, h⟩ := List.cons_prefix_cons.1 h35
      obtain ⟨r, hr⟩ := h
      exact ⟨r, hr.symm⟩
    obtain ⟨m, rfl⟩ := hl
    rw [List.length_cons] at hsz
    have hn : firstN (wordF s) 5 = none := firstN_all fun k hk => by
      obtain ⟨c, r, e, hc⟩ := fiveL_ne hk
      refine wordF_none (fun h => ?_) (fun h => ?_)
      · have := ((hpc k hk).1.1 h).2
        rw [e] at this
        exact hc (List.cons_prefix_cons.1 this).1
      · have := ((hpc k hk).2.1 h).2
        rw [e] at this
        exact hc (List.cons_prefix_cons.1 this).1.symm
    have h2 : refR2 s = restR2 s := by unfold refR2; rw [hn]; rfl
    rw [h2, hr0]
    by_cases e1 : s = ⟨#[38, 35]⟩
    · subst e1; decide +kernel
    by_cases e2 : s = ⟨#[38, 35, 120]⟩
    · subst e2; decide +kernel
    unfold restR2
    rw [if_neg e1, if_neg e2, if_pos h35]
    have ht2 : (s.extract 2 s.size).data.toList = m := by
      rw [ByteArray.data_extract, Array.toList_extract, List.extract_eq_take_drop, hL, List.drop_succ_cons, List.drop_succ_cons, List.drop_zero]
      exact List.take_of_length_le (by omega)
    have hx : pre s ⟨#[38, 35, 120]⟩ = Lib.hasPrefix (s.extract 2 s.size).data.toList [120] := by
      rw [Bool.eq_iff_iff, pre_iff, ht2, hL]
      unfold Lib.hasPrefix
      rw [List.isPrefixOf_iff_prefix]
      show [38, 35, 120] <+: 38 :: 35 :: m ↔ _
      rw [List.cons_prefix_cons, List.cons_prefix_cons]
      exact ⟨fun h => h.2.2, fun h => ⟨rfl, rfl, h⟩⟩
    unfold numberR
    rw [← hx]
    by_cases hh : pre s ⟨#[38, 35, 120]⟩ = true
    · have h3 : 3 ≤ s.size := by
        rw [pre_iff] at hh
        have := hh.length_le
        rw [hL] at this
        simp at this
        omega
      rw [if_pos hh, if_pos hh, ext2 h3]
      exact num_same h3 rfl
    · rw [if_neg hh, if_neg hh]
      exact num_same (by omega) rfl
  · have hp : ¬ Lib.hasPrefix s.data.toList [38, 35] = true := h35
    rw [if_neg hp] at hr0
    have hw : s.extract 1 (1 + spanN lowB l) = ⟨(l.take (spanN lowB l)).toArray⟩ := by
      apply bytes_of
      rw [ByteArray.data_extract, Array.toList_extract, List.extract_eq_take_drop, hL, List.drop_succ_cons, List.drop_zero]
      congr 1
      omega
    have hc : byteN s (1 + spanN lowB l) = (l.getD (spanN lowB l) 0).toNat := by
      unfold byteN
      rw [hL, Nat.add_comm]
      rfl
    rw [hw, hc, hsz] at hr0
    have hle := spanN_le lowB l
    rw [hr0]
    by_cases hall : spanN lowB l = l.length
    · rw [if_pos (by omega), hall, List.take_length]
      have hno : ∀ k, k < 5 → ¬ (fiveL k ++ [59]) <+: l := fun k hk h => by
        obtain ⟨h1, _, h3⟩ := q1 (fiveL_low hk) h
        rw [← h1, hall] at h3
        simp at h3
      have hword : ∀ k, k < 5 → wordF s k = if pre (wW k) s = true then some (⟨#[]⟩, 0, 1) else none := fun k hk => by
        unfold wordF
        rw [if_neg (fun h => hno k hk ((hpc k hk).1.1 h).2)]
      have hpw : ∀ k, k < 5 → (pre (wW k) s = true ↔ l <+: fiveL k) := fun k hk => by
        rw [(hpc k hk).2]
        constructor
        · rintro ⟨_, h⟩
          rcases q3 h with h | h
          · exact h
          · exact absurd (h ▸ List.prefix_refl _) (hno k hk)
        · exact fun h => ⟨rfl, h.trans (List.prefix_append _ _)⟩
      by_cases hb : begun ⟨l.toArray⟩ = true
      · rw [if_pos hb]
        obtain ⟨k, hk, h⟩ := begun_iff.1 hb
        have : refR2 s = (⟨#[]⟩, 0, 1) := by
          unfold refR2
          rw [firstN_const (x := (⟨#[]⟩, 0, 1)) hk (by rw [hword k hk, if_pos ((hpw k hk).2 h)]) (fun j hj => by
            rw [hword j hj]
            split
            · exact .inr rfl
            · exact .inl rfl)]
          rfl
        rw [this]; rfl
      · rw [if_neg hb]
        have : refR2 s = (⟨#[]⟩, 0, 2) := by
          unfold refR2
          rw [firstN_all (fun j hj => by rw [hword j hj, if_neg (fun h => hb (begun_iff.2 ⟨j, hj, (hpw j hj).1 h⟩))])]
          exact rest_none h35
        rw [this]; rfl
    · have hlt : spanN lowB l < l.length := by omega
      rw [if_neg (by omega)]
      have hget : l[spanN lowB l]? = some (l.getD (spanN lowB l) 0) := by rw [List.getD_eq_getElem?_getD, List.getElem?_eq_getElem hlt]; rfl
      have hyes : ∀ k, k < 5 → (pre s (wW k) = true ↔ l.take (spanN lowB l) = fiveL k ∧ l[spanN lowB l]? = some 59) := fun k hk => by
        rw [(hpc k hk).1]
        constructor
        · rintro ⟨_, h⟩
          obtain ⟨h1, h2, h3⟩ := q1 (fiveL_low hk) h
          rw [h1]; exact ⟨h2, h3⟩
        · exact fun h => ⟨rfl, q2 h.1 h.2⟩
      have hword : ∀ k, k < 5 → wordF s k = if pre s (wW k) = true then some (wT k, ((wW k).size : Int), 0) else none := fun k hk => by
        unfold wordF
        by_cases h : pre s (wW k) = true
        · rw [if_pos h, if_pos h]
        · rw [if_neg h, if_neg h, if_neg]
          intro h2
          rcases q3 ((hpc k hk).2.1 h2).2 with h3 | h3
          · exact hall (low_all (fiveL_low hk) h3)
          · exact h ((hpc k hk).1.2 ⟨rfl, h3 ▸ List.prefix_refl _⟩)
      by_cases hy : ∃ k, k < 5 ∧ l.take (spanN lowB l) = fiveL k ∧ l[spanN lowB l]? = some 59
      · obtain ⟨k, hk, h1, h2⟩ := hy
        obtain ⟨n1, n2⟩ := named_five hk
        have hc59 : l.getD (spanN lowB l) 0 = 59 := by rw [h2] at hget; injection hget with h; exact h.symm
        have hlen : (fiveL k).length = spanN lowB l := by rw [← h1, List.length_take]; omega
        have : refR2 s = (wT k, ((wW k).size : Int), 0) := by
          unfold refR2
          rw [firstN_const (x := (wT k, ((wW k).size : Int), 0)) hk (by rw [hword k hk, if_pos ((hyes k hk).2 ⟨h1, h2⟩)]) (fun j hj => by
            rw [hword j hj]
            by_cases h : pre s (wW j) = true
            · right
              rw [if_pos h]
              have h3 := ((hyes j hj).1 h).1
              rw [h1] at h3
              rw [wW_len hk, wW_len hj, ← (named_five hk).1, ← (named_five hj).1, h3]
            · left; rw [if_neg h])]
          rfl
        rw [this, h1, n1, hc59, if_pos ⟨n2, rfl⟩, wW_len hk, hlen]
        rfl
      · have hno : ¬ (namedS ⟨(l.take (spanN lowB l)).toArray⟩ ≠ ⟨#[]⟩ ∧ (l.getD (spanN lowB l) 0).toNat = 59) := by
          rintro ⟨h1, h2⟩
          obtain ⟨k, hk, h3⟩ := named_is h1
          exact hy ⟨k, hk, h3, by rw [hget]; congr 1; exact UInt8.toNat_inj.1 h2⟩
        rw [if_neg hno]
        have : refR2 s = (⟨#[]⟩, 0, 2) := by
          unfold refR2
          rw [firstN_all (fun j hj => by rw [hword j hj, if_neg (fun h => hy ⟨j, hj, (hyes j hj).1 h⟩)])]
          exact rest_none h35
        rw [this]; rfl
theorem refR2_err (s : ByteArray) : (refR2 s).2.2 = 0 ∨ (refR2 s).2.2 = 1 ∨ (refR2 s).2.2 = 2 := by
  unfold refR2
  cases e : firstN (wordF s) 5 with
  | none =>
    show (restR2 s).2.2 = 0 ∨ _
    unfold restR2 numR2
    repeat' split
    all_goals simp
  | some x =>
    obtain ⟨k, _, h, _⟩ := firstN_some e
    show x.2.2 = 0 ∨ _
    unfold wordF at h
    repeat' split at h
    all_goals first | (cases h; done) | (injection h with h; subst h; simp)
end Go.Proofs.Ytnkbeaipgadphaa
