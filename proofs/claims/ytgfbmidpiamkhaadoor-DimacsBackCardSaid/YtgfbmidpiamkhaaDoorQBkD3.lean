/- An answer that is printed tells itself. Plain. -/
import Derived.Test.YtgfbmidpiamkhaaDoorQAnP1
import Derived.Test.YtgfbmidpiamkhaaDoorQBkD2
namespace Go.Proofs.YtgfbmidpiamkhaaDoor
namespace D28

theorem fold_lits (c : List Int) : ∀ (k : Nat) (W : List Bs), (c.flatMap litT).foldl lstep (⟨[], k, (W, [])⟩ : LS) = ⟨[], k, (W ++ c.map numL, [])⟩ := by
  induction c with
  | nil => intro k W; simp
  | cons x c ih =>
    intro k W
    have e : (x :: c).flatMap litT = numL x ++ (32 :: c.flatMap litT) := by simp [litT]
    rw [e, List.foldl_append, fold_tok _ (fun b hb => (numL_mem hb).1), List.foldl_cons]
    have e2 : lstep (⟨[], k, (W, [] ++ numL x)⟩ : LS) 32 = ⟨[], k, (W ++ [numL x], [])⟩ := by
      unfold lstep wstep
      rw [if_neg (by decide), if_pos (show blankU 32 = true from rfl), List.nil_append, if_neg (numL_ne x)]
    rw [e2, ih]; simp
theorem fold_out (o : List Ln) (k : Nat) (ws : WS) (a : Bs) (s : LS) (h : a.foldl lstep ⟨[], k, ws⟩ = s) : linesFrom ⟨o, k, ws⟩ a = o ++ lfin s := by
  rw [linesFrom_out]; unfold linesFrom; rw [h]
theorem lines_sat (T : List Bool) : linesOf (printA 1 T) = [(1, [[115], satB]), (2, [118] :: ((tnums T).map numL ++ [[48]]))] := by
  have e0 : printA 1 T = sSat ++ ([118, 32] ++ ((tnums T).flatMap litT ++ [48, 10])) := by
    show sSat ++ [118, 32] ++ ((tnums T).flatMap litT ++ [48, 10]) = _
    simp only [List.append_assoc]
  have e1 : sSat.foldl lstep .start = ⟨[(1, [[115], satB])], 2, ([], [])⟩ := by
    rfl
  have e2 : linesOf (printA 1 T) = linesFrom (sSat.foldl lstep .start) ([118, 32] ++ ((tnums T).flatMap litT ++ [48, 10])) := by
    rw [e0]; unfold linesOf linesFrom; rw [List.foldl_append]
  have e3 : ([118, 32] ++ ((tnums T).flatMap litT ++ [48, 10])).foldl lstep ⟨[], 2, ([], [])⟩ = ⟨[(2, [118] :: ((tnums T).map numL ++ [[48]]))], 3, ([], [])⟩ := by
    rw [List.foldl_append, List.foldl_append]
    have e4 : ([118, 32] : Bs).foldl lstep ⟨[], 2, ([], [])⟩ = ⟨[], 2, ([[118]], [])⟩ := rfl
    rw [e4, fold_lits]
    show (⟨[] ++ emitL 2 (wfin ([[118]] ++ (tnums T).map numL, [48])), 3, ([], [])⟩ : LS) = _
    have e5 : wfin ([[118]] ++ (tnums T).map numL, [48]) = [118] :: ((tnums T).map numL ++ [[48]]) := by
      unfold wfin; rw [if_neg (by simp)]; simp
    rw [e5]; rfl
  rw [e2, e1, fold_out _ _ _ _ _ e3]
  rfl
instance : DecidableEq AS := fun a b => match a, b with
  | ⟨e, t⟩, ⟨e', t'⟩ => if h : e = e' ∧ t = t' then .isTrue (by rw [h.1, h.2]) else .isFalse fun h2 => by cases h2; exact h ⟨rfl, rfl⟩
theorem tfold_tnums {T : List Bool} (h : T.length ≤ 300) : ∀ k, k ≤ T.length → tfold (((tnums T).map numL).take k) = some (T.take k)
  | 0, _ => rfl
  | k + 1, hk => by
    have hl : ((tnums T).map numL).length = T.length := by rw [List.length_map, tnums_len]
    rw [tfold_succ (by rw [hl]; exact hk), tfold_tnums h k (by omega), List.getElem_map, tnums_get hk]
    have ho : okN (if T[k] then (k : Int) + 1 else -((k : Int) + 1)) := by unfold okN; split <;> omega
    have hlk : (T.take k).length = k := by rw [List.length_take]; omega
    unfold tstep
    rw [parse_num ho]
    dsimp only
    rw [hlk, if_pos (by split <;> omega), List.take_succ_eq_append_getElem hk]
    congr 2
    cases T[k] <;> simp <;> omega
theorem truths_tnums {T : List Bool} (h : T.length ≤ 300) : truthsW ([118] :: ((tnums T).map numL ++ [[48]])) = some T := by
  have hl : ((tnums T).map numL).length = T.length := by rw [List.length_map, tnums_len]
  have hb : tbody ([118] :: ((tnums T).map numL ++ [[48]])) = (tnums T).map numL := by
    unfold tbody
    rw [List.drop_succ_cons, List.drop_zero, List.take_append_of_le_length (by simp), List.take_of_length_le (by simp)]
  unfold truthsW
  rw [if_neg, hb]
  · have := tfold_tnums h T.length (Nat.le_refl _)
    rwa [List.take_of_length_le (by rw [hl]; exact Nat.le_refl _), List.take_length] at this
  · rintro (h | h | h)
    · simp at h; omega
    · exact h rfl
    · apply h
      simp only [List.length_cons, List.length_append, List.length_nil, Nat.zero_add, Nat.add_sub_cancel, List.getElem?_cons_succ]
      rw [List.getElem?_append_right (Nat.le_refl _)]; simp
theorem answer_back {E : Int} {T : List Bool} (hE : 1 ≤ E ∧ E ≤ 3) (hT : T.length ≤ 300) : aR (printA E T) = (some (E.toNat, if E = 1 then T else []), 0) := by
  have h : E = 1 ∨ E = 2 ∨ E = 3 := by omega
  rcases h with rfl | rfl | rfl
  · unfold aR
    rw [lines_sat]
    have e1 : endW [[115], satB] = 1 := by decide
    have e2 : linesA .start [(1, [[115], satB]), (2, [118] :: ((tnums T).map numL ++ [[48]]))] = (some ⟨1, some T⟩, 0) := by
      rw [linesA]
      unfold astep
      rw [e1]
      show linesA ⟨1, none⟩ _ = _
      rw [linesA]
      unfold astep
      rw [if_neg (by simp), if_pos ⟨rfl, rfl⟩, truths_tnums hT]; rfl
    rw [e2]
    simp [openA]
  · have e : printA 2 T = [115, 32] ++ unsatB ++ [10] := by unfold printA; simp
    rw [e]
    show _ = (some (2, []), 0)
    decide +kernel
  · have e : printA 3 T = [115, 32] ++ unkB ++ [10] := by unfold printA; simp
    rw [e]
    show _ = (some (3, []), 0)
    decide +kernel
theorem printA_len {E : Int} {T : List Bool} (hT : T.length ≤ 300) : (printA E T).length ≤ 10000 := by
  unfold printA
  split
  · have := lineL_len (c := tnums T) (tnums_ok hT)
    rw [tnums_len] at this
    have h16 : sSat.length = 14 := by decide
    simp only [List.length_append, List.length_cons, List.length_nil, h16]; omega
  · split
    · show ([115, 32] ++ unsatB ++ [10] : Bs).length ≤ _
      decide
    · show ([115, 32] ++ unkB ++ [10] : Bs).length ≤ _
      decide
end D28
end Go.Proofs.YtgfbmidpiamkhaaDoor
