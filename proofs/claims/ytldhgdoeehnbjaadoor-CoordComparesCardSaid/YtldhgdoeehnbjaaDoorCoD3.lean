/- a text cut at its colons. Plain. -/
import Derived.Test.YtldhgdoeehnbjaaDoorCoW5
namespace Go.Proofs.YtldhgdoeehnbjaaDoor
open Go.RowKit

def cutC : List UInt8 → List (List UInt8)
  | [] => [[]]
  | x :: l => if x = 58 then [] :: cutC l else match cutC l with
    | p :: ps => (x :: p) :: ps
    | [] => [[x]]
theorem cutC_ne (l : List UInt8) : cutC l ≠ [] := by
  cases l with
  | nil => simp [cutC]
  | cons x l =>
    unfold cutC
    split
    · simp
    · split <;> simp
theorem cutC_colon (l : List UInt8) : cutC (58 :: l) = [] :: cutC l := by rw [cutC, if_pos rfl]
theorem cutC_other {x : UInt8} {l p : List UInt8} {ps : List (List UInt8)} (hx : x ≠ 58) (h : cutC l = p :: ps) : cutC (x :: l) = (x :: p) :: ps := by rw [cutC, if_neg hx, h]
theorem pre_one (x : UInt8) (l : List UInt8) : [58].isPrefixOf (x :: l) = (x == 58) := by
  rw [Bool.eq_iff_iff, List.isPrefixOf_iff_prefix, List.cons_prefix_cons, beq_iff_eq]
  exact ⟨fun h => h.1.symm, fun h => ⟨h.symm, List.nil_prefix⟩⟩
theorem index_colon (l : List UInt8) : Lib.index (58 :: l) [58] = 0 := by rw [Lib.index, pre_one]; rfl
theorem index_other {x : UInt8} {l : List UInt8} (hx : x ≠ 58) : Lib.index (x :: l) [58] = if Lib.index l [58] == -1 then -1 else Lib.index l [58] + 1 := by
  rw [Lib.index, pre_one]
  simp [hx]
theorem split_cut : ∀ l : List UInt8, Lib.splitK [58] 0 (l.count 58) l = cutC l
  | [] => rfl
  | x :: l => by
    have ih := split_cut l
    by_cases hx : x = 58
    · subst hx
      rw [List.count_cons_self, Lib.splitK, index_colon]
      simp only [cutC_colon]
      rw [← ih]
      simp
    · have hc : (x :: l).count 58 = l.count 58 := List.count_cons_of_ne (fun e => hx e)
      rw [hc]
      cases hk : l.count 58 with
      | zero =>
        rw [hk] at ih
        rw [cutC_other hx (show cutC l = l :: [] from ih.symm)]
        rfl
      | succ k =>
        rw [hk] at ih
        rw [Lib.splitK] at ih ⊢
        rw [index_other hx]
        by_cases hi : (Lib.index l [58] == -1) = true
        · rw [if_pos hi] at ih ⊢
          rw [cutC_other hx ih.symm]
          rfl
        · rw [if_neg hi] at ih ⊢
          have h0 : 0 ≤ Lib.index l [58] := by
            have := Lib.index_ge l [58]
            have : Lib.index l [58] ≠ -1 := fun e => hi (beq_iff_eq.2 e)
            omega
          have h1 : ¬ (Lib.index l [58] + 1 == -1) = true := fun e => by have := beq_iff_eq.1 e; omega
          rw [if_neg h1, cutC_other hx ih.symm]
          have e1 : (Lib.index l [58] + 1).toNat = (Lib.index l [58]).toNat + 1 := by omega
          simp [e1]
theorem pcs_cut (s : ByteArray) : (pcs s).map (fun p => p.data.toList) = cutC s.data.toList := by
  unfold pcs
  rw [Lib.splitB_data]
  have : Lib.countB s colon = s.data.toList.count 58 := Lib.count_one 58 _
  rw [this]
  exact split_cut _
theorem cutC_no {l : List UInt8} (h : ∀ x ∈ l, x ≠ 58) : cutC l = [l] := by
  induction l with
  | nil => rfl
  | cons x l ih => exact cutC_other (h x (by simp)) (ih fun y hy => h y (by simp [hy]))
theorem cutC_front {a r : List UInt8} (h : ∀ x ∈ a, x ≠ 58) : cutC (a ++ 58 :: r) = a :: cutC r := by
  induction a with
  | nil => exact cutC_colon r
  | cons x a ih => exact cutC_other (h x (by simp)) (ih fun y hy => h y (by simp [hy]))
theorem map_inj {α β : Type} {f : α → β} (hf : ∀ a b, f a = f b → a = b) : ∀ {l m : List α}, l.map f = m.map f → l = m
  | [], [], _ => rfl
  | [], _ :: _, h => by simp at h
  | _ :: _, [], h => by simp at h
  | a :: l, b :: m, h => by
    simp only [List.map_cons, List.cons.injEq] at h
    rw [hf a b h.1, map_inj hf h.2]
theorem pcs_of {s : ByteArray} {l : List ByteArray} (h : cutC s.data.toList = l.map (fun p => p.data.toList)) : pcs s = l := by
  have := (pcs_cut s).trans h
  exact map_inj (fun a b e => by cases a; cases b; simp_all) this
theorem idS_no {a : ByteArray} (h : idS a = true) : ∀ x ∈ a.data.toList, x ≠ 58 := by
  unfold idS allB at h
  simp only [Bool.and_eq_true] at h
  intro x hx e
  have := List.all_eq_true.1 h.1.1 x hx
  rw [e] at this
  revert this; decide
theorem verS_no {a : ByteArray} (h : verS a = true) : ∀ x ∈ a.data.toList, x ≠ 58 := by
  unfold verS allB at h
  simp only [Bool.and_eq_true] at h
  intro x hx e
  have := List.all_eq_true.1 h.1.1 x hx
  rw [e] at this
  revert this; decide
theorem pcs_three {a b c : ByteArray} (ha : ∀ x ∈ a.data.toList, x ≠ 58) (hb : ∀ x ∈ b.data.toList, x ≠ 58) (hc : ∀ x ∈ c.data.toList, x ≠ 58) : pcs (a ++ ⟨#[58]⟩ ++ b ++ ⟨#[58]⟩ ++ c) = [a, b, c] := by
  apply pcs_of
  have e : (a ++ (⟨#[58]⟩ : ByteArray) ++ b ++ ⟨#[58]⟩ ++ c).data.toList = a.data.toList ++ 58 :: (b.data.toList ++ 58 :: c.data.toList) := by simp
  rw [e, cutC_front ha, cutC_front hb, cutC_no hc]
  rfl
theorem pcs_four {a b c d : ByteArray} (ha : ∀ x ∈ a.data.toList, x ≠ 58) (hb : ∀ x ∈ b.data.toList, x ≠ 58) (hc : ∀ x ∈ c.data.toList, x ≠ 58) (hd : ∀ x ∈ d.data.toList, x ≠ 58) : pcs (a ++ ⟨#[58]⟩ ++ b ++ ⟨#[58]⟩ ++ c ++ (⟨#[58]⟩ ++ d)) = [a, b, c, d] := by
  apply pcs_of
  have e : (a ++ (⟨#[58]⟩ : ByteArray) ++ b ++ ⟨#[58]⟩ ++ c ++ (⟨#[58]⟩ ++ d)).data.toList = a.data.toList ++ 58 :: (b.data.toList ++ 58 :: (c.data.toList ++ 58 :: d.data.toList)) := by simp
  rw [e, cutC_front ha, cutC_front hb, cutC_front hc, cutC_no hd]
  rfl
/-- a byte more -/
def snocC (ps : List (List UInt8)) (x : UInt8) : List (List UInt8) := if x = 58 then ps ++ [[]] else ps.dropLast ++ [ps.getLastD [] ++ [x]]
theorem cutC_snoc (l : List UInt8) (x : UInt8) : cutC (l ++ [x]) = snocC (cutC l) x := by
  induction l with
  | nil =>
    unfold snocC
    by_cases hx : x = 58
    · subst hx; rfl
    · rw [if_neg hx, List.nil_append, cutC_other hx (p := []) (ps := []) rfl]; rfl
  | cons y l ih =>
    rcases hl : cutC l with _ | ⟨p, ps⟩
    · exact absurd hl (cutC_ne l)
    · rw [hl] at ih
      by_cases hy : y = 58
      · subst hy
        rw [List.cons_append, cutC_colon, cutC_colon, ih, hl]
        unfold snocC
        by_cases hx : x = 58
        · rw [if_pos hx, if_pos hx]; rfl
        · rw [if_neg hx, if_neg hx]; simp [List.getLastD]
      · rcases hs : snocC (p :: ps) x with _ | ⟨q, qs⟩
        · rw [hs] at ih; exact absurd ih (cutC_ne _)
        · rw [List.cons_append, cutC_other hy (ih.trans hs), cutC_other hy hl]
          unfold snocC at hs ⊢
          by_cases hx : x = 58
          · rw [if_pos hx] at hs ⊢
            simp only [List.cons_append, List.cons.injEq] at hs
            obtain ⟨rfl, rfl⟩ := hs
            rfl
          · rw [if_neg hx] at hs ⊢
            rcases ps with _ | ⟨r, ps⟩
            · simp [List.getLastD] at hs
              obtain ⟨rfl, rfl⟩ := hs
              simp [List.getLastD]
            · simp only [List.dropLast_cons_cons, List.cons_append, List.cons.injEq] at hs
              obtain ⟨rfl, rfl⟩ := hs
              simp [List.getLastD]
end Go.Proofs.YtldhgdoeehnbjaaDoor
