/- Rows of the call's own whose elements are several cells each: pushed to, read. -/
import Derived.Test.YtgfbmidpiamkhaaDoorZa
namespace Go.Proofs.YtgfbmidpiamkhaaDoor
open Go.RowKit

def ElemN (P : Program) (t e : TypeId) (size bytes : Nat) : Prop := P.underlying t = some (.slice e) ∧ bytes ≤ 128 ∧ 0 < size ∧ ∃ i z, P.info? e = some i ∧ i.zero = some z ∧ i.size = size ∧ i.bytes = bytes ∧ z.cells.size = size
def elemNB (o : Option TypeInfo) (size bytes : Nat) : Bool := match o with | some i => (match i.zero with | some z => i.size == size && i.bytes == bytes && z.cells.size == size | none => false) | none => false
theorem elemN_mk {P : Program} {t e : TypeId} {size bytes : Nat} (h1 : P.underlying t = some (.slice e)) (h2 : elemNB (P.info? e) size bytes = true) (h3 : bytes ≤ 128) (h5 : 0 < size) : ElemN P t e size bytes := by
  unfold elemNB at h2
  split at h2
  · next i hi =>
    split at h2
    · next z hz =>
      simp only [Bool.and_eq_true, beq_iff_eq] at h2
      exact ⟨h1, h3, h5, i, z, hi, hz, h2.1.1, h2.1.2, h2.2⟩
    · exact absurd h2 (by simp)
  · exact absurd h2 (by simp)
/-- append of one value of several cells, which lies alone in a block that was just made. -/
theorem wpList_pushN {P : Program} {w : World} {ops : Array Oper} {rest : List Oper} {o : Oper} {a : Act} {Q : Exit → Act → World → Prop} (hgd : o.guard = none) (s x : Operand) (t : TypeId)
    (ho : o.op = .call { callee := .builtin .append, args := #[s, x], argTypes := #[t, t] }) {base : Nat} {e : TypeId} {size bytes : Nat} (he : ElemN P t e size bytes)
    {v : Value} {n : Nat} {xs : List Value} (hs : a.eval s = v) (hown : w.ownsRow base e size v n xs) (g : Nat) (news : List Value) (hx : a.eval x = .slice (some ⟨g, 0, none⟩) 1 1)
    (hl : news.length = size) (hc : ∀ j u, news[j]? = some u → w.cell? ⟨g, j, none⟩ = some u) (h1 : ∀ u ∈ news, u.oneCell' = true) (hn : n < 1000000000000) (hbase : base ≤ w.heap.size)
    (h : ∀ v' w', w'.ownsRow base e size v' (n + 1) (xs ++ news) → w.grownBy w' v.ownBlock → (v'.ownBlock = v.ownBlock ∨ v'.ownBlock = some w.heap.size) → wpList P ops Q rest (a.put o.dst v') w') :
    wpList P ops Q (o :: rest) a w := by
  obtain ⟨ht, h64, hs0, i, z, hi, hz, hsz, hby, hzs⟩ := he
  refine wpList_append_own_at w hgd s x t ho base e i z size bytes ht hi hz hsz hby hzs hs0 v n xs hs hown ⟨g, 0, none⟩ 1 1 news hx (by rw [hl]; omega) ?_ h1 ?_ ?_ hbase fun v' w' h2 h3 _ h5 => h v' w' h2 h3 h5
  · intro j u hu
    rw [add_none, Nat.zero_add]
    exact hc j u hu
  · unfold maxLen; omega
  · have : (n + 1) * bytes ≤ 1000000000000 * 128 := Nat.mul_le_mul (by omega) h64
    omega
theorem flatMap_cells {α : Type} {n : Nat} {cells : α → List Value} (hc : ∀ x, (cells x).length = n) : ∀ (l : List α) (k j : Nat) (hk : k < l.length), j < n → (l.flatMap cells)[k * n + j]? = (cells l[k])[j]?
  | x :: l, 0, j, _, hj => by
    rw [List.flatMap_cons, Nat.zero_mul, Nat.zero_add, List.getElem?_append_left (by rw [hc]; exact hj)]; rfl
  | x :: l, k + 1, j, hk, hj => by
    rw [List.flatMap_cons, List.getElem?_append_right (by rw [hc, Nat.succ_mul]; omega), hc, show (k + 1) * n + j - n = k * n + j by rw [Nat.succ_mul]; omega, flatMap_cells hc l k j (by simpa using hk) hj]
    rfl
/-- A row of the call's own as a reading. -/
theorem rarr_of_own {α : Type} {n : Nat} {cells : α → List Value} (hc : ∀ x, (cells x).length = n) {w : World} {base : Nat} {e : TypeId} {v : Value} {l : List α} {S : Nat → Prop} (h : w.ownsRow base e n v l.length (l.flatMap cells))
    (hS : ∀ g, v.ownBlock = some g → S g) : RArr n (VCells cells) w S v l := by
  rcases h.2 with ⟨rfl, h0⟩ | ⟨g, cap, cur, rfl, hg, hh, hnc, hm, hs, ht⟩
  · have : l = [] := List.eq_nil_of_length_eq_zero h0
    subst this
    exact ⟨none, 0, rfl, Nat.le_refl _, Nat.zero_le _, fun h => absurd h (by simp)⟩
  · refine ⟨some ⟨g, 0, none⟩, cap, rfl, hnc, hm, fun _ => ⟨g, 0, rfl, hS g rfl, fun k hk j u hu => ?_⟩⟩
    have hj : j < n := by rw [← hc l[k]]; exact (List.getElem?_eq_some_iff.1 hu).1
    rw [← flatMap_cells hc l k j hk hj, ← ht, List.getElem?_take] at hu
    split at hu
    · rw [Nat.zero_add, cell_of_row _ _ _ _ _ _ hh]
      simpa using hu
    · cases hu
theorem RArr.up {α : Type} {n : Nat} {P : RdV α} (hs : StableV P) {w w' : World} {v : Value} {l : List α} (h : RArr n P w (Lt w.heap.size) v l) (hb : Below w.heap.size w w') : RArr n P w' (Lt w'.heap.size) v l := (RArr.stable hs).up h hb
end Go.Proofs.YtgfbmidpiamkhaaDoor
