/- Graphs: the way back to where one came from; a graph turned round. Plain. -/
import Derived.Test.YtjmenkjmghmkpaaGrB
namespace Go.Proofs.Ytjmenkjmghmkpaa
namespace G22

/-- what leads to b among the first n nodes: each as often as it does. -/
def turnTo (G : Gr) (n b : Nat) : List Nat := (List.range n).flatMap fun a => List.replicate ((row G a).count b) a
def turnG (G : Gr) : Gr := (List.range G.length).map fun b => turnTo G G.length b
theorem turnTo_succ (G : Gr) (n b : Nat) : turnTo G (n + 1) b = turnTo G n b ++ List.replicate ((row G n).count b) n := by
  unfold turnTo; rw [List.range_succ, List.flatMap_append]; simp
theorem turnG_length (G : Gr) : (turnG G).length = G.length := by simp [turnG]
theorem row_turn {G : Gr} {b : Nat} (h : b < G.length) : row (turnG G) b = turnTo G G.length b := by
  unfold row turnG List.getD
  simp [h]
theorem mem_turnTo {G : Gr} {n a b : Nat} : a ∈ turnTo G n b ↔ a < n ∧ Edge G a b := by
  unfold turnTo Edge
  simp only [List.mem_flatMap, List.mem_range, List.mem_replicate]
  constructor
  · rintro ⟨x, hx, h0, rfl⟩
    exact ⟨hx, by
      rcases Nat.eq_zero_or_pos ((row G a).count b) with h | h
      · exact absurd h h0
      · exact List.count_pos_iff.1 h⟩
  · rintro ⟨h1, h2⟩
    exact ⟨a, h1, by have := List.count_pos_iff.2 h2; omega, rfl⟩
theorem find_replicate {p : Nat → Bool} {m a : Nat} : (List.replicate m a).find? p = if 0 < m ∧ p a = true then some a else none := by
  rcases m with _ | m
  · simp
  · cases h : p a <;> simp [List.replicate_succ, h]
theorem find_turn {G : Gr} {n b : Nat} {p : Nat → Bool} : (turnTo G n b).find? p = (List.range n).find? fun a => p a && leads G a b := by
  induction n with
  | zero => rfl
  | succ n ih =>
    rw [turnTo_succ, List.find?_append, ih, List.range_succ, List.find?_append, find_replicate]
    congr 1
    have : (0 < (row G n).count b ∧ p n = true) ↔ (p n && leads G n b) = true := by
      rw [List.count_pos_iff, Bool.and_eq_true, leads_iff]
      exact And.comm
    simp only [this, List.find?_singleton]

/-- the same, the first j steps from n looked at -/
def turnMid (G : Gr) (n j : Nat) : Gr := (List.range G.length).map fun b => turnTo G n b ++ List.replicate (((row G n).take j).count b) n
theorem turnMid_length (G : Gr) (n j : Nat) : (turnMid G n j).length = G.length := by simp [turnMid]
theorem turnMid_first (G : Gr) : turnMid G 0 0 = List.replicate G.length [] := by
  refine List.ext_getElem (by simp [turnMid]) fun i h1 h2 => ?_
  simp [turnMid, turnTo]
theorem turnMid_end (G : Gr) (n : Nat) : turnMid G n (row G n).length = turnMid G (n + 1) 0 := by
  unfold turnMid
  refine List.map_congr_left fun b _ => ?_
  rw [List.take_length, turnTo_succ]; simp
theorem turnMid_all (G : Gr) : turnMid G G.length 0 = turnG G := by simp [turnMid, turnG]
theorem turnMid_step {G : Gr} {n j k : Nat} {l : List Nat} (hj : (row G n)[j]? = some k) (hl : (turnMid G n j)[k]? = some l) : (turnMid G n j).set k (l ++ [n]) = turnMid G n (j + 1) := by
  have hjl := (List.getElem?_eq_some_iff.1 hj).1
  have hjk := (List.getElem?_eq_some_iff.1 hj).2
  have ht : (row G n).take (j + 1) = (row G n).take j ++ [k] := by rw [List.take_succ_eq_append_getElem hjl, hjk]
  refine List.ext_getElem (by simp [turnMid_length]) fun i h1 h2 => ?_
  rw [List.getElem_set]
  have hi : i < G.length := by simpa [turnMid_length] using h2
  split
  · next e =>
    subst e
    have := (List.getElem?_eq_some_iff.1 hl).2
    rw [← this]
    simp only [turnMid, List.getElem_map, List.getElem_range, List.append_assoc]
    congr 1
    rw [ht, List.count_append, List.count_singleton_self, List.replicate_succ']
  · next e =>
    simp only [turnMid, List.getElem_map, List.getElem_range]
    congr 1
    rw [ht, List.count_append, List.count_cons, List.count_nil]
    simp [e]
/-- the least node ahead of b that is one step less away -/
def prevO (G : Gr) (d : List Int) (b : Nat) : Option Nat := (List.range G.length).find? fun a => decide (dd d a = dd d b - 1) && leads G a b
def prevN (G : Gr) (d : List Int) (b : Nat) : Nat := (prevO G d b).getD 0
def backL (G : Gr) (d : List Int) : Nat → Nat → List Nat
  | 0, b => [b]
  | k + 1, b => b :: backL G d k (prevN G d b)
/-- the way from where d was reckoned to b -/
def pathL (G : Gr) (d : List Int) (b : Nat) : List Nat := (backL G d (dd d b).toNat b).reverse
theorem prev_some {G : Gr} {a b k : Nat} {d : List Int} (h : IsDepth G a d) (hb : b < G.length) (hk : dd d b = ((k + 1 : Nat) : Int)) :
    prevO G d b = some (prevN G d b) ∧ dd d (prevN G d b) = (k : Int) ∧ Edge G (prevN G d b) b ∧ prevN G d b < G.length := by
  have hl : Least G (k + 1) a b := by
    have := h.pos hb (by show 0 ≤ dd d b; omega)
    have e : (dd d b).toNat = k + 1 := by omega
    have e' : (d.getD b (-1)).toNat = k + 1 := e
    rwa [e'] at this
  obtain ⟨c, hc, he⟩ := hl.pred
  have hdc : dd d c = (k : Int) := by
    rcases h.2 c he.lt with ⟨_, h2⟩ | ⟨j, h1, h2⟩
    · exact absurd hc.reach h2
    · rw [show dd d c = (j : Int) from h1, h2.unique hc]
  cases hp : prevO G d b with
  | none =>
    unfold prevO at hp
    have := List.find?_eq_none.1 hp c (by simpa using he.lt)
    simp only [Bool.and_eq_true, decide_eq_true_eq, leads_iff, not_and] at this
    exact absurd he (this (by omega))
  | some x =>
    have e : prevN G d b = x := by unfold prevN; rw [hp]; rfl
    rw [e]
    unfold prevO at hp
    have h1 := List.find?_some hp
    have h2 := List.mem_of_find?_eq_some hp
    simp only [Bool.and_eq_true, decide_eq_true_eq, leads_iff] at h1
    exact ⟨rfl, by omega, h1.2, by simpa using h2⟩
theorem backL_length (G : Gr) (d : List Int) : ∀ k b, (backL G d k b).length = k + 1
  | 0, _ => rfl
  | k + 1, b => by simp [backL, backL_length G d k]
theorem pathL_length (G : Gr) (d : List Int) (b : Nat) : (pathL G d b).length = (dd d b).toNat + 1 := by unfold pathL; rw [List.length_reverse, backL_length]
/-- what turnTo's first with a mark is. -/
theorem find_prev {G : Gr} {d : List Int} {b : Nat} : (turnTo G G.length b).find? (fun a => decide (dd d a = dd d b - 1)) = prevO G d b := find_turn
end G22
end Go.Proofs.Ytjmenkjmghmkpaa
