/- Graphs: groups by who comes to whom, as the document's answer finds them. Plain. -/
import Derived.Test.YtjmenkjmghmkpaaGrS
namespace Go.Proofs.Ytjmenkjmghmkpaa
namespace G22

/-- R tells of each node how many steps each other one is away. -/
def IsTable (G : Gr) (R : List (List Int)) : Prop := R.length = G.length ∧ ∀ n, n < G.length → IsDepth G n (R.getD n [])
def tb (R : List (List Int)) (a b : Nat) : Int := dd (R.getD a []) b
theorem IsTable.iff {G : Gr} {R : List (List Int)} (h : IsTable G R) {a b : Nat} (ha : a < G.length) (hb : b < G.length) : 0 ≤ tb R a b ↔ Reach G a b := (h.2 a ha).reach_iff hb
def freeB (R : List (List Int)) (D : List Bool) (n k : Nat) : Bool := gB D k || decide (tb R k n < 0) || decide (0 ≤ tb R n k)
def freeTo (R : List (List Int)) (D : List Bool) (n K : Nat) : Bool := (List.range K).all fun k => freeB R D n k
theorem freeTo_succ (R : List (List Int)) (D : List Bool) (n K : Nat) : freeTo R D n (K + 1) = (freeTo R D n K && freeB R D n K) := by
  simp [freeTo, List.range_succ, List.all_append]
def mutB (R : List (List Int)) (n k : Nat) : Bool := decide (0 ≤ tb R k n) && decide (0 ≤ tb R n k)
def sccTo (R : List (List Int)) (n K : Nat) : List Nat := (List.range K).filter fun k => mutB R n k
theorem sccTo_succ (R : List (List Int)) (n K : Nat) : sccTo R n (K + 1) = sccTo R n K ++ if mutB R n K = true then [K] else [] := by
  unfold sccTo
  rw [List.range_succ, List.filter_append]
  congr 1
  cases h : mutB R n K <;> simp [h]
def DB (D : List Bool) : Nat → Prop := fun k => gB D k = true
theorem IsTable.free {G : Gr} {R : List (List Int)} (h : IsTable G R) {D : List Bool} {n : Nat} (hn : n < G.length) : Free G (DB D) n ↔ gB D n = false ∧ freeTo R D n G.length = true := by
  have hc : (∀ k, k < G.length → Reach G k n → DB D k ∨ Reach G n k) ↔ freeTo R D n G.length = true := by
    unfold freeTo freeB
    rw [List.all_eq_true]
    constructor
    · intro h1 k hk
      have hk' : k < G.length := by simpa using hk
      by_cases hr : Reach G k n
      · rcases h1 k hk' hr with h2 | h2
        · rw [show gB D k = true from h2]; rfl
        · rw [decide_eq_true ((h.iff hn hk').2 h2), Bool.or_true]
      · rw [decide_eq_true (p := tb R k n < 0) (by have := mt (h.iff hk' hn).1 hr; omega), Bool.or_true, Bool.true_or]
    · intro h1 k hk hr
      have := h1 k (by simpa using hk)
      simp only [Bool.or_eq_true, decide_eq_true_eq] at this
      rcases this with (h2 | h2) | h2
      · exact .inl h2
      · have := (h.iff hk hn).2 hr; omega
      · exact .inr ((h.iff hn hk).1 h2)
  unfold Free
  rw [hc]
  constructor
  · rintro ⟨h1, h2⟩; exact ⟨by simpa [DB] using h1, h2⟩
  · rintro ⟨h1, h2⟩; exact ⟨by simp [DB, h1], h2⟩
theorem IsTable.scc {G : Gr} {R : List (List Int)} (h : IsTable G R) {n : Nat} (hn : n < G.length) : IsScc G n (sccTo R n G.length) :=
  ⟨List.pairwise_lt_range.filter _, fun k => by
    unfold sccTo mutB
    simp only [List.mem_filter, List.mem_range, Bool.and_eq_true, decide_eq_true_eq]
    constructor
    · rintro ⟨h1, h2, h3⟩; exact ⟨h1, (h.iff h1 hn).1 h2, (h.iff hn h1).1 h3⟩
    · rintro ⟨h1, h2, h3⟩; exact ⟨h1, (h.iff h1 hn).2 h2, (h.iff hn h1).2 h3⟩⟩
/-- how many aren't done -/
def undone (D : List Bool) (n : Nat) : Nat := ((List.range n).filter fun k => !gB D k).length
theorem undone_le {D D' : List Bool} {n : Nat} (h : ∀ k, gB D k = true → gB D' k = true) : undone D' n ≤ undone D n := by
  unfold undone
  induction n with
  | zero => exact Nat.le_refl _
  | succ n ih =>
    rw [List.range_succ, List.filter_append, List.filter_append, List.length_append, List.length_append]
    cases h1 : gB D n with
    | true => simp [h1, h n h1]; exact ih
    | false => cases h2 : gB D' n <;> simp [h1, h2] <;> omega
theorem undone_lt {D D' : List Bool} {n k : Nat} (h : ∀ k, gB D k = true → gB D' k = true) (hk : k < n) (h1 : gB D k = false) (h2 : gB D' k = true) : undone D' n < undone D n := by
  induction n with
  | zero => omega
  | succ n ih =>
    have e : ∀ E : List Bool, undone E (n + 1) = undone E n + if gB E n = true then 0 else 1 := fun E => by
      unfold undone
      rw [List.range_succ, List.filter_append, List.length_append]
      cases h3 : gB E n <;> simp [h3]
    rw [e, e]
    rcases Nat.lt_or_ge k n with h3 | h3
    · have := ih h3
      cases h4 : gB D n with
      | true => simp [h n h4]; exact this
      | false => cases h5 : gB D' n <;> simp <;> omega
    · obtain rfl : k = n := by omega
      have := undone_le (n := k) h
      rw [h1, h2]; simp; omega
/-- done, and the first K of the group done, too -/
def doneTo (R : List (List Int)) (D : List Bool) (n K : Nat) : List Bool := setAll D (sccTo R n K) true
theorem doneTo_succ {R : List (List Int)} {D : List Bool} {n K : Nat} (hK : K < D.length) : doneTo R D n (K + 1) = if mutB R n K = true then (doneTo R D n K).set K true else doneTo R D n K := by
  unfold doneTo
  rw [sccTo_succ]
  have hlt : ∀ k ∈ sccTo R n K, k < D.length := fun k hk => by
    have := (List.mem_filter.1 hk).1
    have : k < K := by simpa using this
    omega
  split
  · refine List.ext_getElem (by rw [setAll_length, List.length_set, setAll_length]) fun i h1 h2 => ?_
    have g1 := getD_setAll (b := i) (x := true) (z := false) (l := D) (P := sccTo R n K ++ [K]) fun k hk => by
      rcases List.mem_append.1 hk with h | h
      · exact hlt k h
      · simp at h; subst h; exact hK
    have g2 := getD_setAll (b := i) (x := true) (z := false) (l := D) (P := sccTo R n K) hlt
    have g3 := getD_set (l := setAll D (sccTo R n K) true) (k := K) (b := i) (x := true) (z := false) (by rw [setAll_length]; exact hK)
    rw [g2] at g3
    simp only [List.getD, List.getElem?_eq_getElem h1, List.getElem?_eq_getElem h2, Option.getD_some] at g1 g3
    rw [g1, g3]
    by_cases h3 : i = K
    · simp [h3]
    · by_cases h4 : i ∈ sccTo R n K <;> simp [h3, h4]
  · rw [List.append_nil]
theorem doneTo_length (R : List (List Int)) (D : List Bool) (n K : Nat) : (doneTo R D n K).length = D.length := setAll_length _ _ _
theorem doneTo_get {R : List (List Int)} {D : List Bool} {n K k : Nat} (hK : K ≤ D.length) : gB (doneTo R D n K) k = if k ∈ sccTo R n K then true else gB D k :=
  getD_setAll fun k hk => by
    have := (List.mem_filter.1 hk).1
    have : k < K := by simpa using this
    omega
end G22
end Go.Proofs.Ytjmenkjmghmkpaa
