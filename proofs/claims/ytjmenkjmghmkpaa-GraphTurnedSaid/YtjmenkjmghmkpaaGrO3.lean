/- Graphs: a graph turned round, once and twice: how many steps. Plain. -/
import Derived.Test.YtjmenkjmghmkpaaGrP
namespace Go.Proofs.Ytjmenkjmghmkpaa
namespace G22

theorem sum_map_add (l : List Nat) (f g : Nat → Nat) : (l.map fun x => f x + g x).sum = (l.map f).sum + (l.map g).sum := by
  induction l with
  | nil => rfl
  | cons a l ih => simp only [List.map_cons, List.sum_cons, ih]; omega
theorem sum_map_zero (l : List Nat) : (l.map fun _ => 0).sum = 0 := by
  induction l with
  | nil => rfl
  | cons a l ih => simp only [List.map_cons, List.sum_cons, ih]
theorem sum_swap (l m : List Nat) (f : Nat → Nat → Nat) : (l.map fun a => (m.map fun b => f a b).sum).sum = (m.map fun b => (l.map fun a => f a b).sum).sum := by
  induction l with
  | nil => simp only [List.map_nil, List.sum_nil]; exact (sum_map_zero m).symm
  | cons a l ih =>
    simp only [List.map_cons, List.sum_cons]
    rw [sum_map_add, ih]
theorem sum_one (n x : Nat) : ((List.range n).map fun b => if x = b then 1 else 0).sum = if x < n then 1 else 0 := by
  induction n with
  | zero => simp
  | succ n ih =>
    rw [List.range_succ, List.map_append, List.sum_append, ih]
    simp only [List.map_cons, List.map_nil, List.sum_cons, List.sum_nil]
    by_cases h : x = n
    · rw [if_pos h, if_neg (by omega), if_pos (by omega)]; rfl
    · rw [if_neg h]
      by_cases h2 : x < n
      · rw [if_pos h2, if_pos (by omega)]; rfl
      · rw [if_neg h2, if_neg (by omega)]; rfl
theorem count_sum {l : List Nat} {n : Nat} (h : ∀ x ∈ l, x < n) : ((List.range n).map fun b => l.count b).sum = l.length := by
  induction l with
  | nil => simp only [List.count_nil]; exact sum_map_zero _
  | cons a l ih =>
    have e : ((List.range n).map fun b => (a :: l).count b) = (List.range n).map fun b => l.count b + if a = b then 1 else 0 := List.map_congr_left fun b _ => by
      rw [List.count_cons]
      by_cases hab : a = b
      · simp [hab]
      · simp [hab]
    rw [e, sum_map_add, ih fun x hx => h x (by simp [hx]), sum_one, if_pos (h a (by simp))]
    simp
theorem turnTo_length (G : Gr) (n b : Nat) : (turnTo G n b).length = ((List.range n).map fun a => (row G a).count b).sum := by
  induction n with
  | zero => rfl
  | succ n ih =>
    rw [turnTo_succ, List.length_append, ih, List.range_succ, List.map_append, List.sum_append, List.length_replicate]
    simp
theorem turnTo_count (G : Gr) (b a : Nat) : ∀ n, (turnTo G n b).count a = if a < n then (row G a).count b else 0
  | 0 => by simp [turnTo]
  | n + 1 => by
    rw [turnTo_succ, List.count_append, turnTo_count G b a n, List.count_replicate]
    by_cases h : n = a
    · subst h; simp
    · rw [if_neg (show ¬ (n == a) = true by simpa using h)]
      by_cases h2 : a < n
      · rw [if_pos h2, if_pos (by omega)]; omega
      · rw [if_neg h2, if_neg (by omega)]
theorem turn_ok (G : Gr) : okG (turnG G) := fun a x hx => by
  rw [turnG_length]
  rcases Nat.lt_or_ge a G.length with h | h
  · rw [row_turn h] at hx
    exact (mem_turnTo.1 hx).1
  · unfold row List.getD at hx
    rw [List.getElem?_eq_none (by rw [turnG_length]; exact h)] at hx
    cases hx
theorem turn_edge {G : Gr} {a b : Nat} (hb : b < G.length) : Edge (turnG G) b a ↔ Edge G a b := by
  unfold Edge
  rw [row_turn hb, mem_turnTo]
  exact ⟨fun h => h.2, fun h => ⟨Edge.lt h, h⟩⟩
theorem twice_length {G : Gr} (hG : okG G) {a : Nat} (ha : a < G.length) : (row (turnG (turnG G)) a).length = (row G a).length := by
  rw [row_turn (by rw [turnG_length]; exact ha), turnTo_length, turnG_length, ← count_sum (l := row G a) (n := G.length) (fun x hx => hG a x hx)]
  congr 1
  refine List.map_congr_left fun b hb => ?_
  have hb' : b < G.length := by simpa using hb
  rw [row_turn hb', turnTo_count, if_pos ha]
/-- how many steps the first n nodes lead on -/
def lenTo (G : Gr) (n : Nat) : Nat := ((List.range n).map fun a => (row G a).length).sum
theorem lenTo_succ (G : Gr) (n : Nat) : lenTo G (n + 1) = lenTo G n + (row G n).length := by
  unfold lenTo
  rw [List.range_succ, List.map_append, List.sum_append]
  simp
theorem lenTo_le {G : Gr} {m : Nat} (h : ∀ a, (row G a).length ≤ m) : ∀ n, lenTo G n ≤ n * m
  | 0 => by simp [lenTo]
  | n + 1 => by rw [lenTo_succ, Nat.succ_mul]; have := lenTo_le h n; have := h n; omega
theorem lenTo_turn {G : Gr} (hG : okG G) : lenTo (turnG G) G.length = lenTo G G.length := by
  unfold lenTo
  have e1 : ((List.range G.length).map fun b => (row (turnG G) b).length) = (List.range G.length).map fun b => ((List.range G.length).map fun a => (row G a).count b).sum := List.map_congr_left fun b hb => by
    rw [row_turn (by simpa using hb), turnTo_length]
  have e2 : ((List.range G.length).map fun a => (row G a).length) = (List.range G.length).map fun a => ((List.range G.length).map fun b => (row G a).count b).sum := List.map_congr_left fun a _ => (count_sum fun x hx => hG a x hx).symm
  rw [e1, e2, sum_swap]
theorem turnTo_sorted (G : Gr) (b : Nat) : ∀ n, (turnTo G n b).Pairwise (· ≤ ·)
  | 0 => List.Pairwise.nil
  | n + 1 => by
    rw [turnTo_succ, List.pairwise_append]
    refine ⟨turnTo_sorted G b n, List.pairwise_replicate.2 (.inr (Nat.le_refl _)), fun x hx y hy => ?_⟩
    have h1 := (mem_turnTo.1 hx).1
    have h2 := (List.mem_replicate.1 hy).2
    omega
end G22
end Go.Proofs.Ytjmenkjmghmkpaa
