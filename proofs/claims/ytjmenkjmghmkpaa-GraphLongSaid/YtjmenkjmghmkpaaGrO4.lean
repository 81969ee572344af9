/- Graphs: long lines and long rounds. Plain. -/
import Derived.Test.YtjmenkjmghmkpaaGrO2
import Derived.Test.YtjmenkjmghmkpaaGrL
namespace Go.Proofs.Ytjmenkjmghmkpaa
namespace G22

/-- M + 1 nodes, each leads to the next one; the last one to the first, where rb says so -/
def longG (M : Nat) (rb : Bool) : Gr := (List.range (M + 1)).map fun i => if i < M then [i + 1] else if rb = true then [0] else []
theorem longG_length (M : Nat) (rb : Bool) : (longG M rb).length = M + 1 := by simp [longG]
theorem long_row {M a : Nat} (rb : Bool) (h : a < M + 1) : row (longG M rb) a = if a < M then [a + 1] else if rb = true then [0] else [] := by
  unfold row longG List.getD
  simp [h]
theorem long_edge {M a b : Nat} {rb : Bool} : Edge (longG M rb) a b ↔ (a < M ∧ b = a + 1) ∨ (rb = true ∧ a = M ∧ b = 0) := by
  constructor
  · intro h
    have ha := h.lt
    rw [longG_length] at ha
    unfold Edge at h
    rw [long_row rb ha] at h
    split at h
    · next h1 => exact .inl ⟨h1, by simpa using h⟩
    · next h1 =>
      split at h
      · next h2 => exact .inr ⟨h2, by omega, by simpa using h⟩
      · cases h
  · intro h
    unfold Edge
    rcases h with ⟨h1, rfl⟩ | ⟨h1, rfl, rfl⟩
    · rw [long_row rb (by omega), if_pos h1]; simp
    · rw [long_row rb (by omega), if_neg (by omega), if_pos h1]; simp
theorem long_ok (M : Nat) (rb : Bool) : okG (longG M rb) := fun a x hx => by
  rw [longG_length]
  rcases long_edge.1 hx with ⟨h1, rfl⟩ | ⟨_, _, rfl⟩ <;> omega
theorem long_rows (M : Nat) (rb : Bool) (a : Nat) : (row (longG M rb) a).length ≤ 1 := by
  rcases Nat.lt_or_ge a (M + 1) with h | h
  · rw [long_row rb h]
    split
    · simp
    · split <;> simp
  · unfold row List.getD
    rw [List.getElem?_eq_none (by rw [longG_length]; exact h)]
    exact Nat.zero_le _
def longD (M : Nat) : List Int := (List.range (M + 1)).map fun i : Nat => (i : Int)
theorem longD_get {M i : Nat} (h : i < M + 1) : dd (longD M) i = (i : Int) := by
  unfold dd longD List.getD
  simp [h]
theorem long_depth (M : Nat) (rb : Bool) : IsDepth (longG M rb) 0 (longD M) := by
  refine isDepth_of (long_ok M rb) (by rw [longG_length]; omega) (by simp [longD, longG_length]) (by rw [longD_get (by omega)]; rfl) (fun x hx h0 y hy => ?_) (fun y hy h0 => ?_) (fun y hy => ?_)
  · rw [longG_length] at hx
    rw [longD_get hx]
    rcases long_edge.1 hy with ⟨h1, rfl⟩ | ⟨_, _, rfl⟩
    · rw [longD_get (by omega)]; omega
    · rw [longD_get (by omega)]; omega
  · rw [longG_length] at hy
    cases y with
    | zero => exact .inl rfl
    | succ y => exact .inr ⟨y, by rw [longG_length]; omega, by rw [longD_get hy, longD_get (by omega)]; omega, by rw [longD_get (by omega)]; omega, long_edge.2 (.inl ⟨by omega, rfl⟩)⟩
  · rw [longG_length] at hy
    rw [longD_get hy]; omega
theorem long_up {M : Nat} (rb : Bool) {a : Nat} : ∀ k, a + k ≤ M → Reach (longG M rb) a (a + k)
  | 0, _ => .refl _ _
  | k + 1, h => (long_up rb k (by omega)).snoc (long_edge.2 (.inl ⟨by omega, by omega⟩))
theorem line_le {M a b : Nat} (h : Reach (longG M false) a b) : a ≤ b := h.ind (P := fun x => a ≤ x) (Nat.le_refl _) fun x y hx he => by
  rcases long_edge.1 he with ⟨_, rfl⟩ | ⟨h1, _, _⟩
  · omega
  · cases h1
theorem line_picks (M : Nat) : ∀ m k, k + m = M + 1 → Picks (longG M false) (fun x => x < k) ((List.range' k m).map fun x => [x])
  | 0, k, h => fun n hn hf => hf.1 (by rw [longG_length] at hn; omega)
  | m + 1, k, h => by
    refine ⟨k, ⟨by rw [longG_length]; omega, ⟨by omega, fun j _ hr => ?_⟩, fun j hj hf => hf.1 hj⟩, ⟨List.pairwise_singleton _ _, fun x => ?_⟩, ?_⟩
    · have := line_le hr
      by_cases e : j = k
      · subst e; exact .inr (.refl _ _)
      · exact .inl (by omega)
    · rw [List.mem_singleton, longG_length]
      constructor
      · rintro rfl; exact ⟨by omega, .refl _ _, .refl _ _⟩
      · rintro ⟨_, h1, h2⟩
        have := line_le h1
        have := line_le h2
        omega
    · exact (line_picks M m (k + 1) (by omega)).congr fun x => by rw [List.mem_singleton]; omega
theorem line_groups (M : Nat) : Picks (longG M false) (fun _ => False) ((List.range (M + 1)).map fun x => [x]) := by
  have := (line_picks M (M + 1) 0 (by omega)).congr (D' := fun _ => False) fun k => ⟨fun h => absurd h (Nat.not_lt_zero _), False.elim⟩
  rwa [← List.range_eq_range'] at this
theorem line_order (M : Nat) : ((List.range (M + 1)).map fun x => [x]).all (okB (longG M false)) = true := by
  rw [List.all_eq_true]
  intro l hl
  obtain ⟨x, _, rfl⟩ := List.mem_map.1 hl
  unfold okB
  cases h : leads (longG M false) (hd [x]) (hd [x]) with
  | false => rfl
  | true =>
    rcases long_edge.1 (leads_iff.1 h) with ⟨_, h1⟩ | ⟨h1, _, _⟩
    · omega
    · cases h1
theorem line_heads (M : Nat) : ((List.range (M + 1)).map fun x => [x]).map hd = List.range (M + 1) := by
  rw [List.map_map]
  exact (List.map_congr_left fun x _ => rfl).trans (List.map_id _)
theorem round_all {M a b : Nat} (ha : a < M + 1) (hb : b < M + 1) : Reach (longG M true) a b := by
  have h1 := long_up true (M := M) (a := a) (M - a) (by omega)
  rw [show a + (M - a) = M by omega] at h1
  have h2 := long_up true (M := M) (a := 0) b (by omega)
  rw [Nat.zero_add] at h2
  exact (h1.snoc (long_edge.2 (.inr ⟨rfl, rfl, rfl⟩))).trans h2
theorem round_groups (M : Nat) : Picks (longG M true) (fun _ => False) [List.range (M + 1)] := by
  refine ⟨0, ⟨by rw [longG_length]; omega, ⟨id, fun k hk _ => .inr (round_all (by omega) (by rw [longG_length] at hk; exact hk))⟩, fun m hm => by omega⟩, ⟨List.pairwise_lt_range, fun k => ?_⟩, fun n hn hf => hf.1 (.inr (by rw [longG_length] at hn; simpa using hn))⟩
  rw [List.mem_range, longG_length]
  exact ⟨fun h => ⟨h, round_all h (by omega), round_all (by omega) h⟩, fun h => h.1⟩
theorem round_order {M : Nat} (h : 1 ≤ M) : [List.range (M + 1)].all (okB (longG M true)) = false := by
  have : okB (longG M true) (List.range (M + 1)) = false := by
    unfold okB
    rw [decide_eq_false (by rw [List.length_range]; omega)]; rfl
  simp [this]
theorem round_cycle (M : Nat) : (cycG (longG M true)).length = M + 1 := by
  have hr : Round (longG M true) 0 := ⟨M, long_edge.2 (.inr ⟨rfl, rfl, rfl⟩), round_all (by omega) (by omega)⟩
  have hb := (bestOf_round (longG M true) 0).2 hr
  rw [cycG_hit (n := 0) (by rw [longG_length]; omega) hb fun m hm => absurd hm (Nat.not_lt_zero _)]
  have hd := depthOf_eq (long_depth M true)
  have hsp := bestTo_spec (G := longG M true) (d := depthOf (longG M true) 0) (n := 0) (K := (longG M true).length) hb
  have he : (bestOf (longG M true) 0).toNat = M := by
    rcases long_edge.1 hsp.1 with ⟨_, h1⟩ | ⟨_, h1, _⟩
    · omega
    · exact h1
  rw [he, ← hd]
  unfold pathR
  rw [if_pos (by rw [longD_get (by omega)]; omega), pathL_length, longD_get (by omega)]
  simp
theorem long_path {M : Nat} {rb : Bool} {d : List Int} (h : IsDepth (longG M rb) 0 d) : (pathR (longG M rb) d M).length = M + 1 := by
  rw [h.unique (long_depth M rb)]
  unfold pathR
  rw [if_pos (by rw [longD_get (by omega)]; omega), pathL_length, longD_get (by omega)]
  simp
end G22
end Go.Proofs.Ytjmenkjmghmkpaa
