/- Graphs: depths by a certificate; the document's example. Plain. -/
import Derived.Test.YtjmenkjmghmkpaaGrO
import Derived.Test.YtjmenkjmghmkpaaGrS2
namespace Go.Proofs.Ytjmenkjmghmkpaa
namespace G22

theorem isDepth_of {G : Gr} {a : Nat} {d : List Int} (hG : okG G) (ha : a < G.length) (hl : d.length = G.length) (h1 : dd d a = 0) (h2 : ∀ x, x < G.length → 0 ≤ dd d x → ∀ y ∈ row G x, 0 ≤ dd d y ∧ dd d y ≤ dd d x + 1)
    (h3 : ∀ y, y < G.length → 0 ≤ dd d y → y = a ∨ ∃ x, x < G.length ∧ dd d x = dd d y - 1 ∧ 0 ≤ dd d x ∧ y ∈ row G x) (h4 : ∀ y, y < G.length → -1 ≤ dd d y) : IsDepth G a d := by
  have up : ∀ k b, Walk G k a b → b < G.length ∧ 0 ≤ dd d b ∧ dd d b ≤ (k : Int) := by
    intro k
    induction k with
    | zero => intro b hb; obtain rfl : a = b := hb; rw [h1]; exact ⟨ha, by omega, by omega⟩
    | succ k ih =>
      rintro b ⟨c, hc, he⟩
      obtain ⟨g1, g2, g3⟩ := ih c hc
      have := h2 c g1 g2 b he
      exact ⟨hG _ _ he, this.1, by omega⟩
  have down : ∀ (k b : Nat), b < G.length → dd d b = (k : Int) → Walk G k a b := by
    intro k
    induction k with
    | zero =>
      intro b hb h0
      rcases h3 b hb (by omega) with rfl | ⟨x, _, hx, hx0, _⟩
      · rfl
      · rw [h0] at hx; omega
    | succ k ih =>
      intro b hb hk
      rcases h3 b hb (by omega) with rfl | ⟨x, hxl, hx, _, he⟩
      · rw [h1] at hk; omega
      · exact ⟨x, ih x hxl (by omega), he⟩
  refine ⟨hl, fun b hb => ?_⟩
  have e : d.getD b (-1) = dd d b := rfl
  rw [e]
  rcases Int.lt_or_le (dd d b) 0 with hneg | hpos
  · refine .inl ⟨by have := h4 b hb; omega, fun ⟨k, hk⟩ => ?_⟩
    have := (up k b hk).2.1
    omega
  · refine .inr ⟨(dd d b).toNat, by omega, down _ b hb (by omega), fun j hj hw => ?_⟩
    have := (up j b hw).2.2
    omega
theorem IsTable.next {G : Gr} {R : List (List Int)} (h : IsTable G R) {D : List Bool} {n : Nat} (hn : n < G.length) (h0 : gB D n = false ∧ freeTo R D n G.length = true) (hm : ∀ m, m < n → ¬ (gB D m = false ∧ freeTo R D m G.length = true)) : IsNext G (DB D) n :=
  ⟨hn, (h.free hn).2 h0, fun m hmn hf => hm m hmn ((h.free (by omega)).1 hf)⟩

def G0 : Gr := [[1], [2], [1, 3], []]
def R0 : List (List Int) := [[0, 1, 2, 3], [-1, 0, 1, 2], [-1, 1, 0, 1], [-1, -1, -1, 0]]
theorem G0_ok : okG G0 := by
  intro a x hx
  match a, hx with
  | 0, hx => simp [row, G0] at hx; subst hx; decide
  | 1, hx => simp [row, G0] at hx; subst hx; decide
  | 2, hx => simp [row, G0] at hx; rcases hx with rfl | rfl <;> decide
  | 3, hx => simp [row, G0] at hx
  | n + 4, hx => simp [row, G0, List.getD] at hx
theorem G0_row (a : Nat) : (row G0 a).length ≤ 100000 := by
  match a with
  | 0 => decide
  | 1 => decide
  | 2 => decide
  | 3 => decide
  | n + 4 => simp [row, G0, List.getD]
theorem G0_table : IsTable G0 R0 := by
  refine ⟨rfl, fun n hn => ?_⟩
  have hn' : n < 4 := hn
  match n, hn' with
  | 0, _ => exact isDepth_of G0_ok (by decide) rfl (by decide) (by decide) (by decide) (by decide)
  | 1, _ => exact isDepth_of G0_ok (by decide) rfl (by decide) (by decide) (by decide) (by decide)
  | 2, _ => exact isDepth_of G0_ok (by decide) rfl (by decide) (by decide) (by decide) (by decide)
  | 3, _ => exact isDepth_of G0_ok (by decide) rfl (by decide) (by decide) (by decide) (by decide)
theorem picked_dstep {G : Gr} {R : List (List Int)} (h : IsTable G R) {D D' : List Bool} {out : List (List Nat)} {n : Nat} (hp : Picked G out (DB D)) (hn : n < G.length) (h0 : gB D n = false ∧ freeTo R D n G.length = true) (hm : ∀ m, m < n → ¬ (gB D m = false ∧ freeTo R D m G.length = true))
    (hl : D'.length = G.length ∧ D.length = G.length) (hd : ∀ k, k < G.length → (gB D' k = true ↔ gB D k = true ∨ k ∈ sccTo R n G.length)) : Picked G (out ++ [sccTo R n G.length]) (DB D') := by
  refine hp.step (h.next hn h0 hm) (h.scc hn) fun k => ?_
  by_cases hk : k < G.length
  · exact hd k hk
  · have e : ∀ E : List Bool, E.length = G.length → gB E k = false := fun E hE => by unfold gB List.getD; rw [List.getElem?_eq_none (by omega)]; rfl
    unfold DB
    rw [e D hl.2, e D' hl.1]
    constructor
    · intro h; cases h
    · rintro (h | h)
      · cases h
      · have := (List.mem_filter.1 h).1
        exact absurd (by simpa using this) hk
theorem G0_picks : Picks G0 (fun _ => False) [[0], [1, 2], [3]] := by
  have h0 : Picked G0 [] (DB [false, false, false, false]) := Picked.start _ fun k hk => by
    unfold DB at hk
    match k, hk with
    | 0, hk => cases hk
    | 1, hk => cases hk
    | 2, hk => cases hk
    | 3, hk => cases hk
    | n + 4, hk => simp [gB, List.getD] at hk
  have h1 := picked_dstep G0_table (D' := [true, false, false, false]) (n := 0) h0 (by decide) (by decide) (by decide) (by decide) (by decide)
  have h2 := picked_dstep G0_table (D' := [true, true, true, false]) (n := 1) h1 (by decide) (by decide) (by decide) (by decide) (by decide)
  have h3 := picked_dstep G0_table (D' := [true, true, true, true]) (n := 3) h2 (by decide) (by decide) (by decide) (by decide) (by decide)
  exact h3.final fun n hn hf => by
    have hn' : n < 4 := hn
    have := hf.1
    unfold DB at this
    match n, hn' with
    | 0, _ => exact this rfl
    | 1, _ => exact this rfl
    | 2, _ => exact this rfl
    | 3, _ => exact this rfl
theorem G0_depth {n : Nat} (hn : n < 4) {d : List Int} (h : IsDepth G0 n d) : d = R0.getD n [] := h.unique (G0_table.2 n hn)
theorem G0_cycle : cycG G0 = [1, 2] := by
  have e : ∀ n, n < 4 → depthOf G0 n = R0.getD n [] := fun n hn => (depthOf_eq (G0_table.2 n hn)).symm
  have h0 : bestOf G0 0 = -1 := by unfold bestOf; rw [e 0 (by omega)]; decide
  have h1 : bestOf G0 1 = 2 := by unfold bestOf; rw [e 1 (by omega)]; decide
  rw [cycG_hit (n := 1) (by decide) (by rw [h1]; decide) (fun m hm => by
    obtain rfl : m = 0 := by omega
    rw [h0]; decide), h1, e 1 (by omega)]
  decide
theorem G0_path {d : List Int} (h : IsDepth G0 0 d) : pathR G0 d 3 = [0, 1, 2, 3] := by rw [G0_depth (by omega) h]; decide
theorem G0_order : [[0], [1, 2], [3]].all (okB G0) = false := by decide
end G22
end Go.Proofs.Ytjmenkjmghmkpaa
