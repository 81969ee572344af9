/- Arguments of the laws on graphs; graphs that are looked at. -/
import Derived.Test.YtjmenkjmghmkpaaGrV
import Derived.Test.YtjmenkjmghmkpaaGrW11
import Derived.Test.YtjmenkjmghmkpaaGrX3
namespace Go.Proofs.Ytjmenkjmghmkpaa
open Go.RowKit Go.ChangeShapes Go.WideShapes Go.ChangeAt Go.Deep
open G22

theorem reads1_ints : Reads1 Try.prog 25 RInts := reads1_slice Try.underlying25 (by kernel_rfl) fun h1 h2 => by
  obtain ⟨v, d, h3, h4⟩ := reads1_int (P := Try.prog) Try.underlying3 h1 h2
  exact ⟨v, d, h3, h4.1⟩
theorem reads1_intss : Reads1 Try.prog 22 RIntss := reads1_slice Try.underlying22 (by kernel_rfl) reads1_ints
theorem arg_graph {w : World} {v : Value} (h : Arg Try.prog w 22 v) : ∃ g, RIntss w (Lt w.heap.size) v g := by
  have hv : ∀ cs, v ≠ .agg cs := fun cs e => by
    obtain ⟨H, enc, base, d, p, hw, _⟩ := h
    obtain ⟨a0, len, cap, e'⟩ := okWide_slice Try.underlying22 hw
    rw [e] at e'; cases e'
  exact h.read1 reads1_intss hv
theorem arg_int {w : World} {v : Value} (h : Arg Try.prog w 3 v) : ∃ n : Int, v = .int .i64 n ∧ -9223372036854775808 ≤ n ∧ n ≤ 9223372036854775807 := by
  have hv : ∀ cs, v ≠ .agg cs := fun cs e => by
    obtain ⟨H, enc, base, d, p, hw, hd, _⟩ := h
    obtain ⟨x, hx, _⟩ := open_int Try.underlying3 hw hd
    rw [e] at hx; cases hx
  exact h.read1 (reads1_int (P := Try.prog) Try.underlying3) hv
theorem arg_bool {w : World} {v : Value} (h : Arg Try.prog w 4 v) : ∃ b : Bool, v = .bool b := by
  have hv : ∀ cs, v ≠ .agg cs := fun cs e => by
    obtain ⟨H, enc, base, d, p, hw, hd, _⟩ := h
    obtain ⟨x, hx, _⟩ := open_bool Try.underlying4 hw hd
    rw [e] at hx; cases hx
  exact h.read1 (reads1_bool (P := Try.prog) Try.underlying4) hv
/-- A graph that is looked at. -/
structure Small (G : Gr) : Prop where
  ok : okG G
  len : G.length ≤ 30
  rows : ∀ a, (row G a).length ≤ 40
theorem Small.rows' {G : Gr} (h : Small G) (a : Nat) : (row G a).length ≤ 100000 := Nat.le_trans (h.rows a) (by omega)
theorem small_of {g : List (List Int)} (hl : lightG g = true) (hm : mayG g = true) : ∃ G, g = intss G ∧ Small G := by
  obtain ⟨G, rfl, hG⟩ := mayG_nat hm
  unfold lightG at hl
  simp only [Bool.and_eq_true, decide_eq_true_eq, Bool.not_eq_true', List.length_map] at hl
  refine ⟨G, rfl, hG, hl.1, fun a => ?_⟩
  rcases Nat.lt_or_ge a G.length with h | h
  · have h2 := List.any_eq_false.1 hl.2 (ints (G[a])) (List.mem_map.2 ⟨G[a], List.getElem_mem h, rfl⟩)
    simp at h2
    rw [row_at h]
    exact h2
  · unfold row List.getD
    rw [List.getElem?_eq_none h]
    exact Nat.zero_le _
def IsTrue (w : World) (e : Ending) (w' : World) : Prop := e = .returned (.bool true) ∧ Below w.heap.size w w'
theorem lives_in (w w' : World) (h : Below w.heap.size w w') : Calls Try.prog 11 #[] w' fun e w'' => e = .returned (.bool true) ∧ Below w.heap.size w w'' :=
  (lives_any w').mono fun _ _ ⟨he, hb⟩ => ⟨he, h.trans (hb.mono h.size)⟩
theorem all_true {s t : Value} {l : List (List Nat)} {w : World} {S1 S2 : Nat → Prop} (hs : RNatss w S1 s l) (ht : RNatss w S2 t l) : Calls Try.prog 24 #[s, t] w fun e w' => e = .returned (.bool true) ∧ ∃ n, w' = w.drewN n := by
  have := all_any s t (intss l) (intss l) w (intss_of_natss hs) (intss_of_natss ht)
  rwa [decide_eq_true rfl] at this
theorem same_ints {s t : Value} {l : List Int} {w : World} {S1 S2 : Nat → Prop} (hs : RInts w S1 s l) (ht : RInts w S2 t l) : Calls Try.prog 22 #[s, t] w fun e w' => e = .returned (.bool true) ∧ ∃ n, w' = w.drewN n := by
  have := same_any s t l l w hs ht
  rwa [decide_eq_true rfl] at this
theorem below_up {w a b : World} (h : Below w.heap.size w a) (k : Below a.heap.size a b) : Below w.heap.size w b := h.trans (k.mono h.size)
end Go.Proofs.Ytjmenkjmghmkpaa
