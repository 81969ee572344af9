/- The clauses of a deal: plain law. -/
import Derived.Test.YtlaihjhkghbfkaaCnfE1
import Derived.Test.YtlaihjhkghbfkaaSatMay
namespace Go.Proofs.Ytlaihjhkghbfkaa
open Go.RowKit

def wantCl (i : Nat) (w : List Int) : List Int := -((i : Int) + 1) :: w.map (· + 1)
def wcls : List (List (List Int)) → Nat → List (List Int)
  | [], _ => []
  | ws :: r, i => ws.map (wantCl i) ++ wcls r (i + 1)
theorem wcls_append (a : List (List (List Int))) (x : List (List Int)) (i : Nat) : wcls (a ++ [x]) i = wcls a i ++ x.map (wantCl (i + a.length)) := by
  induction a generalizing i with
  | nil => simp [wcls]
  | cons y a ih => simp only [List.cons_append, wcls, ih, List.length_cons, List.append_assoc]; rw [show i + 1 + a.length = i + (a.length + 1) by omega]
theorem wcls_succ {wss : List (List (List Int))} {k : Nat} (h : k < wss.length) : wcls (wss.take (k + 1)) 0 = wcls (wss.take k) 0 ++ wss[k].map (wantCl k) := by
  rw [List.take_succ_eq_append_getElem h, wcls_append]
  simp [Nat.min_eq_left (Nat.le_of_lt h)]
def kAt (items : List ItemD) (i : Nat) : KeyD := keyAt items (i : Int)
def pairCl (i k : Nat) : List Int := [-((i : Int) + 1), -((k : Int) + 1)]
def pairsAt (items : List ItemD) (i m : Nat) : List (List Int) := ((List.range m).filter fun k => decide (i < k) && decide (kAt items i = kAt items k)).map (pairCl i)
def pairsTo (items : List ItemD) (m : Nat) : List (List Int) := (List.range m).flatMap fun i => pairsAt items i items.length
theorem pairsAt_succ (items : List ItemD) (i m : Nat) : pairsAt items i (m + 1) = pairsAt items i m ++ (if decide (i < m) && decide (kAt items i = kAt items m) then [pairCl i m] else []) := by
  unfold pairsAt
  rw [List.range_succ, List.filter_append, List.map_append]
  congr 1
  cases h : (decide (i < m) && decide (kAt items i = kAt items m)) <;> simp [h]
theorem pairsTo_succ (items : List ItemD) (m : Nat) : pairsTo items (m + 1) = pairsTo items m ++ pairsAt items m items.length := by
  simp [pairsTo, List.range_succ]
theorem pairsAt_le (items : List ItemD) (i : Nat) : ∀ m, m ≤ i + 1 → pairsAt items i m = []
  | 0, _ => rfl
  | m + 1, h => by rw [pairsAt_succ, pairsAt_le items i m (by omega)]; simp [show ¬ i < m by omega]
def headCls (r : Int) (wss : List (List (List Int))) : List (List Int) := [r + 1] :: wcls wss 0
def allCls (items : List ItemD) (wss : List (List (List Int))) (r : Int) : List (List Int) := headCls r wss ++ pairsTo items items.length
/-- The places of a key behind one another, from the last on, after c steps. -/
def idxC (items : List ItemD) (key : KeyD) : Nat → List Nat
  | 0 => []
  | c + 1 => if kAt items (items.length - 1 - c) = key then idxC items key c ++ [items.length - 1 - c] else idxC items key c
theorem idxC_length (items : List ItemD) (key : KeyD) : ∀ c, (idxC items key c).length ≤ c
  | 0 => Nat.le_refl _
  | c + 1 => by have := idxC_length items key c; unfold idxC; split <;> simp <;> omega
theorem idxC_reverse (items : List ItemD) (key : KeyD) : ∀ c, c ≤ items.length → (idxC items key c).reverse = (List.range' (items.length - c) c).filter fun k => decide (kAt items k = key)
  | 0, _ => rfl
  | c + 1, h => by
    have ih := idxC_reverse items key c (by omega)
    rw [List.range'_succ]
    unfold idxC
    have e : items.length - (c + 1) = items.length - 1 - c := by omega
    rw [List.filter_cons, e, show items.length - 1 - c + 1 = items.length - c by omega]
    by_cases hk : kAt items (items.length - 1 - c) = key
    · rw [if_pos hk, if_pos (by simpa using hk), List.reverse_append, ih]; rfl
    · rw [if_neg hk, if_neg (by simpa using hk), ih]
theorem idxC_mem {items : List ItemD} {i : Nat} (h : i < items.length) : i ∈ idxC items (kAt items i) items.length := by
  rw [← List.mem_reverse, idxC_reverse _ _ _ (Nat.le_refl _)]
  simp [h]
/-- The clauses of a place out of the row of its key, the last q of the row looked at. -/
def behindCls (i : Nat) (l : List Nat) (q : Nat) : List (List Int) := ((l.reverse.take q).filter fun k => decide (i < k)).map (pairCl i)
theorem behindCls_all (items : List ItemD) (i : Nat) : behindCls i (idxC items (kAt items i) items.length) (idxC items (kAt items i) items.length).length = pairsAt items i items.length := by
  unfold behindCls pairsAt
  rw [← List.length_reverse, List.take_length, idxC_reverse _ _ _ (Nat.le_refl _), List.filter_filter, Nat.sub_self, List.range_eq_range']
  congr 1
  apply List.filter_congr
  intro k _
  congr 1
  exact decide_eq_decide.2 ⟨fun h => h.symm, fun h => h.symm⟩
theorem behindCls_succ {i : Nat} {l : List Nat} {q : Nat} (h : q < l.length) : behindCls i l (q + 1) = behindCls i l q ++ (if i < l[l.length - 1 - q] then [pairCl i l[l.length - 1 - q]] else []) := by
  unfold behindCls
  rw [List.take_succ_eq_append_getElem (by simpa using h), List.filter_append, List.map_append, List.getElem_reverse]
  congr 1
  by_cases hk : i < l[l.length - 1 - q] <;> simp [hk]
/-- What the maker was asked for: all of it, or already too many of it. -/
def Upto (cs all : List (List Int)) : Prop := cs = all ∨ (16384 < cs.length ∧ cs <+: all)
theorem Upto.more {cs all b : List (List Int)} (h : Upto cs all) (hb : 16384 < cs.length) : Upto cs (all ++ b) := by
  rcases h with rfl | ⟨h1, h2⟩
  · exact .inr ⟨hb, List.prefix_append _ _⟩
  · exact .inr ⟨h1, h2.trans (List.prefix_append _ _)⟩
theorem Upto.push {cs all : List (List Int)} {c : List Int} (h : Upto cs all) (hb : ¬ 16384 < cs.length) : Upto (cs ++ [c]) (all ++ [c]) := by
  rcases h with rfl | ⟨h1, _⟩
  · exact .inl rfl
  · exact absurd h1 hb
theorem Upto.pre {cs a b : List (List Int)} (h : Upto cs a) (hp : a <+: b) (hb : 16384 < cs.length) : Upto cs b := by
  rcases h with rfl | ⟨h1, h2⟩
  · exact .inr ⟨hb, hp⟩
  · exact .inr ⟨h1, h2.trans hp⟩
theorem behindCls_pre (i : Nat) (l : List Nat) (q : Nat) : behindCls i l q <+: behindCls i l l.length := by
  unfold behindCls
  rw [← List.length_reverse, List.take_length]
  exact ((List.take_prefix _ _).filter _).map _
/-- The deal isn't great. -/
def lightW (wss : List (List (List Int))) : Prop := ∀ ws ∈ wss, ws.length ≤ 10 ∧ ∀ w ∈ ws, w.length ≤ 40
theorem lightW_of {n0 : Nat} {wss : List (List (List Int))} (h : lightB n0 wss = true) : lightW wss := by
  intro ws hws
  simp only [lightB, Bool.and_eq_true, List.all_eq_true] at h
  have := h.2 ws hws
  simp only [lightR, Bool.and_eq_true, List.all_eq_true, decide_eq_true_eq] at this
  exact this
theorem wcls_len {wss : List (List (List Int))} (h : lightW wss) : ∀ i, (wcls wss i).length ≤ 10 * wss.length := by
  induction wss with
  | nil => intro i; simp [wcls]
  | cons ws r ih =>
    intro i
    have h1 := (h ws (by simp)).1
    have := ih (fun x hx => h x (by simp [hx])) (i + 1)
    simp [wcls]; omega
theorem mem_wcls {wss : List (List (List Int))} {c : List Int} : ∀ {i : Nat}, c ∈ wcls wss i → ∃ (k : Nat) (h : k < wss.length) (w : List Int), w ∈ wss[k] ∧ c = wantCl (i + k) w := by
  induction wss with
  | nil => intro i h; simp [wcls] at h
  | cons ws r ih =>
    intro i h
    simp only [wcls, List.mem_append, List.mem_map] at h
    rcases h with ⟨w, hw, rfl⟩ | h
    · exact ⟨0, by simp, w, hw, rfl⟩
    · obtain ⟨k, hk, w, hw, rfl⟩ := ih h
      exact ⟨k + 1, by simpa using hk, w, by simpa using hw, by rw [show i + 1 + k = i + (k + 1) by omega]⟩
theorem mem_pairsTo {items : List ItemD} {m : Nat} {c : List Int} (h : c ∈ pairsTo items m) : ∃ i k : Nat, i < m ∧ i < k ∧ k < items.length ∧ kAt items i = kAt items k ∧ c = pairCl i k := by
  simp only [pairsTo, pairsAt, List.mem_flatMap, List.mem_range, List.mem_map, List.mem_filter, Bool.and_eq_true, decide_eq_true_eq] at h
  obtain ⟨i, hi, k, ⟨hk, h1, h2⟩, rfl⟩ := h
  exact ⟨i, k, hi, h1, hk, h2, rfl⟩
theorem mem_allCls {items : List ItemD} {wss : List (List (List Int))} {r : Int} {c : List Int} (h : c ∈ allCls items wss r) :
    c = [r + 1] ∨ (∃ (k : Nat) (h : k < wss.length) (w : List Int), w ∈ wss[k] ∧ c = wantCl k w) ∨ ∃ i k : Nat, i < k ∧ k < items.length ∧ kAt items i = kAt items k ∧ c = pairCl i k := by
  simp only [allCls, headCls, List.cons_append, List.mem_cons, List.mem_append] at h
  rcases h with rfl | h | h
  · exact .inl rfl
  · obtain ⟨k, hk, w, hw, rfl⟩ := mem_wcls h
    exact .inr (.inl ⟨k, hk, w, hw, by simp⟩)
  · obtain ⟨i, k, _, h1, h2, h3, rfl⟩ := mem_pairsTo h
    exact .inr (.inr ⟨i, k, h1, h2, h3, rfl⟩)
end Go.Proofs.Ytlaihjhkghbfkaa
namespace Go.Proofs.Ytlaihjhkghbfkaa
/-- No limit of sat.May is passed. -/
theorem satMay_all {items : List ItemD} {wss : List (List (List Int))} {r : Int} (hmay : mayN items.length r wss = 0) (hl : lightW wss) (hlen : (allCls items wss r).length ≤ 16384) : satMayN items.length (allCls items wss r) = 0 := by
  obtain ⟨h1, h2, h3, h4⟩ := mayN_zero hmay
  have hr := isItemB_iff.1 h2
  have hv := validW_of h4
  have hsz : ∀ c ∈ allCls items wss r, c.length ≤ 41 ∧ ∀ x ∈ c, badLit items.length x = false := by
    intro c hc
    rcases mem_allCls hc with rfl | ⟨k, hk, w, hw, rfl⟩ | ⟨i, k, hik, hk, _, rfl⟩
    · refine ⟨by simp, fun x hx => ?_⟩
      simp at hx; subst hx
      simp [badLit]; omega
    · have hwl := (hl _ (List.getElem_mem hk)).2 w hw
      refine ⟨by simp [wantCl]; omega, fun x hx => ?_⟩
      simp only [wantCl, List.mem_cons, List.mem_map] at hx
      rcases hx with rfl | ⟨y, hy, rfl⟩
      · simp [badLit]; omega
      · have := hv k hk w hw y hy
        simp [badLit]; omega
    · refine ⟨by simp [pairCl], fun x hx => ?_⟩
      simp only [pairCl, List.mem_cons, List.not_mem_nil, or_false] at hx
      rcases hx with rfl | rfl <;> (simp [badLit]; omega)
  unfold satMayN
  rw [if_neg (by omega), if_neg, if_neg (by omega), if_neg]
  · simp only [Bool.not_eq_true, List.any_eq_false]
    intro c hc x hx
    simp [(hsz c hc).2 x hx]
  · simp only [Bool.not_eq_true, List.any_eq_false, decide_eq_true_eq]
    intro c hc
    have := (hsz c hc).1
    omega
end Go.Proofs.Ytlaihjhkghbfkaa
