/- Truths make a deal's clauses true just if the items that are true are right: plain law. -/
import Derived.Test.YtlaihjhkghbfkaaCnfK3
namespace Go.Proofs.Ytlaihjhkghbfkaa
open Go.RowKit

theorem lit_pos {t : List Bool} {x : Int} (h : 0 ≤ x) : litTrue t (x + 1) = tT t x.toNat := by
  unfold litTrue tT
  rw [if_pos (by omega), show (x + 1).toNat - 1 = x.toNat by omega]
theorem lit_neg {t : List Bool} {i : Nat} : litTrue t (-((i : Int) + 1)) = !tT t i := by
  unfold litTrue tT
  rw [if_neg (by omega), if_pos (by omega), show (-(-((i : Int) + 1))).toNat - 1 = i by omega]
/-- What a deal asks of truths. -/
structure Meant (items : List ItemD) (wss : List (List (List Int))) (r : Nat) (t : List Bool) : Prop where
  root : tT t r = true
  wants : ∀ i (h : i < wss.length), tT t i = true → ∀ w ∈ wss[i], ∃ x ∈ w, tT t x.toNat = true
  keys : ∀ i k, i < k → k < items.length → kAt items i = kAt items k → tT t i = true → tT t k = true → False
theorem memWcls {wss : List (List (List Int))} {c : List Int} : ∀ {o : Nat}, c ∈ wcls wss o ↔ ∃ i, ∃ h : i < wss.length, ∃ w ∈ wss[i], c = wantCl (o + i) w := by
  induction wss with
  | nil => intro o; simp [wcls]
  | cons x r ih =>
    intro o
    rw [wcls, List.mem_append, List.mem_map, ih]
    constructor
    · rintro (⟨w, hw, rfl⟩ | ⟨i, hi, w, hw, rfl⟩)
      · exact ⟨0, by simp, w, by simpa using hw, rfl⟩
      · exact ⟨i + 1, by simp; omega, w, by simpa using hw, by rw [show o + 1 + i = o + (i + 1) by omega]⟩
    · rintro ⟨i, hi, w, hw, rfl⟩
      cases i with
      | zero => exact .inl ⟨w, by simpa using hw, rfl⟩
      | succ i => exact .inr ⟨i, by simp at hi; omega, w, by simpa using hw, by rw [show o + 1 + i = o + (i + 1) by omega]⟩
theorem memPairsTo {items : List ItemD} {c : List Int} {m : Nat} : c ∈ pairsTo items m ↔ ∃ i k, i < m ∧ k < items.length ∧ i < k ∧ kAt items i = kAt items k ∧ c = pairCl i k := by
  simp only [pairsTo, List.mem_flatMap, List.mem_range, pairsAt, List.mem_map, List.mem_filter, Bool.and_eq_true, decide_eq_true_eq]
  constructor
  · rintro ⟨i, hi, k, ⟨hk, h1, h2⟩, rfl⟩; exact ⟨i, k, hi, hk, h1, h2, rfl⟩
  · rintro ⟨i, k, hi, hk, h1, h2, rfl⟩; exact ⟨i, hi, k, ⟨hk, h1, h2⟩, rfl⟩
theorem clause_want {t : List Bool} {i : Nat} {w : List Int} (hv : ∀ x ∈ w, 0 ≤ x) : clauseTrue t (wantCl i w) = true ↔ (tT t i = true → ∃ x ∈ w, tT t x.toNat = true) := by
  unfold clauseTrue wantCl
  rw [List.any_cons, lit_neg, List.any_map]
  have h : w.any (litTrue t ∘ (· + 1)) = true ↔ ∃ x ∈ w, tT t x.toNat = true := by
    rw [List.any_eq_true]
    constructor
    · rintro ⟨x, hx, h⟩; exact ⟨x, hx, by rw [← lit_pos (hv x hx)]; exact h⟩
    · rintro ⟨x, hx, h⟩; exact ⟨x, hx, by show litTrue t (x + 1) = true; rw [lit_pos (hv x hx)]; exact h⟩
  cases ht : tT t i with
  | true => simpa using h
  | false => simp
theorem clause_pair {t : List Bool} {i k : Nat} : clauseTrue t (pairCl i k) = true ↔ (tT t i = true → tT t k = true → False) := by
  unfold clauseTrue pairCl
  simp only [List.any_cons, List.any_nil, Bool.or_false, lit_neg]
  cases tT t i <;> cases tT t k <;> simp
theorem meant_iff {items : List ItemD} {wss : List (List (List Int))} {r : Nat} {t : List Bool} (hv : validW items.length wss) :
    (allCls items wss (r : Int)).all (clauseTrue t) = true ↔ Meant items wss r t := by
  rw [List.all_eq_true]
  constructor
  · intro h
    refine ⟨?_, fun i hi ht w hw => ?_, fun i k hik hk he h1 h2 => ?_⟩
    · have := h [(r : Int) + 1] (by simp [allCls, headCls])
      simp only [clauseTrue, List.any_cons, List.any_nil, Bool.or_false] at this
      rw [lit_pos (by omega)] at this
      simpa using this
    · have := h (wantCl i w) (by simp only [allCls, headCls, List.mem_append, List.mem_cons]; exact .inl (.inr (memWcls.2 ⟨i, hi, w, hw, by simp⟩)))
      exact (clause_want fun x hx => (hv i hi w hw x hx).1).1 this ht
    · have := h (pairCl i k) (by simp only [allCls, List.mem_append]; exact .inr (memPairsTo.2 ⟨i, k, by omega, hk, hik, he, rfl⟩))
      exact clause_pair.1 this h1 h2
  · intro h c hc
    simp only [allCls, headCls, List.mem_append, List.mem_cons] at hc
    rcases hc with (rfl | hc) | hc
    · simp only [clauseTrue, List.any_cons, List.any_nil, Bool.or_false]
      rw [lit_pos (by omega)]
      simpa using h.root
    · obtain ⟨i, hi, w, hw, rfl⟩ := memWcls.1 hc
      rw [Nat.zero_add]
      exact (clause_want fun x hx => (hv i hi w hw x hx).1).2 fun ht => h.wants i hi ht w hw
    · obtain ⟨i, k, h1, h2, h3, h4, rfl⟩ := memPairsTo.1 hc
      exact clause_pair.2 (h.keys i k h3 h2 h4)
/-- Numbers that are right, by what is in them. -/
theorem rightB_iff {items : List ItemD} {wss : List (List (List Int))} {r : Nat} {l : List Int} {p : Nat → Bool} (hm : mayN items.length (r : Int) wss = 0) (hp : ∀ x : Int, x ∈ l ↔ 0 ≤ x ∧ x < items.length ∧ p x.toNat = true) :
    rightB items wss (r : Int) l = true ↔ p r = true ∧ (∀ i (h : i < wss.length), p i = true → ∀ w ∈ wss[i], ∃ x ∈ w, p x.toNat = true) ∧ ∀ i k, i < k → k < items.length → kAt items i = kAt items k → p i = true → p k = true → False := by
  obtain ⟨_, hr, hlen, hbad⟩ := mayN_zero hm
  obtain ⟨hr0, hr1⟩ := isItemB_iff.1 hr
  have hv := validW_of hbad
  have hpn : ∀ i : Nat, i < items.length → ((i : Int) ∈ l ↔ p i = true) := fun i hi => by rw [hp]; simp; omega
  have hall : l.all (isItemB items.length) = true := by
    rw [List.all_eq_true]; intro x hx; exact isItemB_iff.2 ⟨((hp x).1 hx).1, ((hp x).1 hx).2.1⟩
  have hwant : ∀ i (h : i < wss.length), ((wantsAt wss (i : Int)).all (wantOk l) = true ↔ ∀ w ∈ wss[i], ∃ x ∈ w, p x.toNat = true) := by
    intro i h
    rw [wantsAt_eq (by simpa using h)]
    simp only [Int.toNat_natCast, List.all_eq_true]
    constructor
    · intro h1 w hw
      obtain ⟨x, hx, h2⟩ := List.any_eq_true.1 (h1 w hw)
      exact ⟨x, hx, ((hp x).1 (hasB_iff.1 h2)).2.2⟩
    · intro h1 w hw
      obtain ⟨x, hx, h2⟩ := h1 w hw
      have := hv i h w hw x hx
      exact List.any_eq_true.2 ⟨x, hx, hasB_iff.2 ((hp x).2 ⟨this.1, this.2, h2⟩)⟩
  have hcl : (l.all fun n => !l.any (clash items n)) = true ↔ ∀ i k, i < k → k < items.length → kAt items i = kAt items k → p i = true → p k = true → False := by
    rw [List.all_eq_true]
    constructor
    · intro h i k hik hk he h1 h2
      have h3 := h (i : Int) ((hpn i (by omega)).2 h1)
      simp only [Bool.not_eq_true', List.any_eq_false] at h3
      refine h3 (k : Int) ((hpn k hk).2 h2) ?_
      simp only [clash, Bool.and_eq_true, decide_eq_true_eq]
      exact ⟨isItemB_iff.2 (by omega), by omega, he.symm⟩
    · intro h n hn
      simp only [Bool.not_eq_true', List.any_eq_false]
      intro k hk hc
      simp only [clash, Bool.and_eq_true, decide_eq_true_eq] at hc
      obtain ⟨h1, h2, h3⟩ := (hp n).1 hn
      obtain ⟨k1, k2, k3⟩ := (hp k).1 hk
      have en : ((n.toNat : Nat) : Int) = n := by omega
      have ek : ((k.toNat : Nat) : Int) = k := by omega
      rcases Nat.lt_or_ge n.toNat k.toNat with hlt | hge
      · exact h n.toNat k.toNat hlt (by omega) (by unfold kAt; rw [en, ek]; exact hc.2.2.symm) h3 k3
      · exact h k.toNat n.toNat (by omega) (by omega) (by unfold kAt; rw [en, ek]; exact hc.2.2) k3 h3
  simp only [rightB, Bool.and_eq_true, hm, hall, hcl, decide_true, true_and, hasB_iff]
  rw [hpn r (by omega)]
  constructor
  · rintro ⟨⟨⟨h1, _⟩, h2⟩, h3⟩
    refine ⟨h1, fun i hi ht => (hwant i hi).1 (List.all_eq_true.1 h3 (i : Int) ((hpn i (by omega)).2 ht)), h2⟩
  · rintro ⟨h1, h2, h3⟩
    refine ⟨⟨⟨h1, trivial⟩, h3⟩, List.all_eq_true.2 fun n hn => ?_⟩
    obtain ⟨k1, k2, k3⟩ := (hp n).1 hn
    have en : ((n.toNat : Nat) : Int) = n := by omega
    rw [← en]
    exact (hwant n.toNat (by omega)).2 (h2 n.toNat (by omega) k3)
theorem mB_take {t : List Bool} {n x : Nat} (h : x < n) : mB (t.take n) x = tT t x := by
  unfold mB tT List.getD
  rw [List.getElem?_take, if_pos h]
theorem mB_ge {t : List Bool} {x : Nat} (h : t.length ≤ x) : mB t x = false := by
  unfold mB List.getD
  rw [List.getElem?_eq_none h]; rfl
theorem mem_trues_take {t : List Bool} {n : Nat} {x : Int} : x ∈ trues (t.take n) ↔ 0 ≤ x ∧ x < n ∧ tT t x.toNat = true := by
  rw [mem_trues]
  constructor
  · rintro ⟨h0, h1⟩
    have hlt : x < n := by
      rcases Int.lt_or_le x n with h | h
      · exact h
      · rw [mB_ge (by simp; omega)] at h1; simp at h1
    exact ⟨h0, hlt, by rw [← mB_take (t := t) (n := n) (by omega)]; exact h1⟩
  · rintro ⟨h0, hlt, h1⟩
    exact ⟨h0, by rw [mB_take (by omega)]; exact h1⟩
theorem means_law {items : List ItemD} {wss : List (List (List Int))} {r : Int} {t : List Bool} (hm : mayN items.length r wss = 0) :
    (allCls items wss r).all (clauseTrue t) = rightB items wss r (trues (t.take items.length)) := by
  obtain ⟨_, hr, _, hbad⟩ := mayN_zero hm
  obtain ⟨hr0, hr1⟩ := isItemB_iff.1 hr
  obtain ⟨rn, rfl⟩ := Int.eq_ofNat_of_zero_le hr0
  have h1 := meant_iff (items := items) (r := rn) (t := t) (validW_of hbad)
  have h2 := rightB_iff (l := trues (t.take items.length)) (p := tT t) hm fun x => mem_trues_take
  rw [Bool.eq_iff_iff]
  refine h1.trans (Iff.trans ⟨fun h => ⟨h.root, h.wants, h.keys⟩, fun h => ⟨h.1, h.2.1, h.2.2⟩⟩ h2.symm)
theorem means_eq {items : List ItemD} {wss : List (List (List Int))} {r : Int} {t : List Bool} (hm : mayN items.length r wss = 0) :
    (holdsI (allCls items wss r) t == -1) = rightB items wss r (trues (t.take items.length)) := by
  rw [← means_law hm, Bool.eq_iff_iff, beq_iff_eq, holdsI_iff]
end Go.Proofs.Ytlaihjhkghbfkaa
