/- One row of properties appended to another, whatever is in either. -/
import Derived.Test.YtpgdioopkcfjdaaPrW9
namespace Go.Proofs.Ytpgdioopkcfjdaa
open Go.RowKit

/-- the value of a slice of properties, and what it reads -/
def Reads (w : World) (x : Value) (M : PL) : Prop := (x = .slice none 0 0 ∧ M = []) ∨ ∃ ad c, x = .slice (some ad) M.length c ∧ ∀ j u, (pcellsL M)[j]? = some u → w.cell? (ad.add j) = some u
theorem reads_own {w : World} {base : Nat} {v : Value} {L : PL} (h : POwn w base v L) : Reads w v L := by
  rcases h.2 with ⟨rfl, h0⟩ | ⟨g, cap, cur, rfl, hg, hh, hnc, hm, hs, ht⟩
  · exact .inl ⟨rfl, List.eq_nil_of_length_eq_zero h0⟩
  · exact .inr ⟨_, _, rfl, World.ownsRow.cells h rfl⟩
theorem run_append_none (w : World) (t ty e : TypeId) (i : TypeInfo) (ht : Try.prog.underlying t = some (.slice e)) (hi : Try.prog.info? e = some i) (p : Option Addr) (n cap : Nat) (hc : n ≤ cap) :
    (Builtin.append_ #[t, t] ty #[.slice p n cap, .slice none 0 0]).run Try.prog w = .ok (.slice p n cap) w := by
  cases p <;> simp [Builtin.append_, run_underlying ht, sizeOf, typeInfo, hi, Builtin.lenOf, Builtin.firstCells, hc, storeCells]
theorem run_appR (w : World) (ty : TypeId) {base : Nat} {v x : Value} {L M : PL} (hown : POwn w base v L) (hx : Reads w x M) (hn : L.length + M.length < 1000000000000) (hbase : base ≤ w.heap.size) :
    ∃ v' w', (Builtin.append_ #[22, 22] ty #[v, x]).run Try.prog w = .ok v' w' ∧ POwn w' base v' (L ++ M) ∧ w.grownBy w' v.ownBlock ∧ (v'.ownBlock = v.ownBlock ∨ v'.ownBlock = some w.heap.size) := by
  obtain ⟨i, hi, hz, hsz, hby⟩ := info_parts (show (Try.prog.info? 42).map (fun i => (i.zero, i.size, i.bytes)) = some (some (.agg #[.string ⟨#[]⟩, .string ⟨#[]⟩]), 2, 32) by kernel_rfl)
  rcases hx with ⟨rfl, rfl⟩ | ⟨ad, c, rfl, hc⟩
  · obtain ⟨p, cap, rfl, hcap⟩ : ∃ p cap, v = .slice p L.length cap ∧ L.length ≤ cap := by
      rcases hown.2 with ⟨rfl, h0⟩ | ⟨g, cap, cur, rfl, hg, hh, hnc, hm, hs, ht⟩
      · exact ⟨none, 0, by rw [h0], by omega⟩
      · exact ⟨_, _, rfl, hnc⟩
    refine ⟨_, w, run_append_none w _ ty _ i Try.underlying22 hi p _ cap hcap, by rw [List.append_nil]; exact hown, ⟨rfl, rfl, rfl, Nat.le_refl _, fun _ _ _ => rfl⟩, .inl rfl⟩
  · obtain ⟨v', w', h1, h2, h3, -, h5⟩ := run_append_own_at (P := Try.prog) w base 22 ty 42 i _ 2 32 Try.underlying22 hi hz hsz hby (by simp [Value.cells]) (by omega) v L.length (pcellsL L) hown ad M.length c (pcellsL M) (pcellsL_length M) hc pcellsL_one (by unfold maxLen; omega) (by omega) hbase
    refine ⟨v', w', h1, ?_, h3, h5⟩
    unfold POwn; simpa [pcellsL] using h2
theorem wp_appR {o : Oper} {w : World} {a : Act} {K : Act → World → Prop} {Q : Exit → Act → World → Prop} (s x : Operand)
    (ho : o.op = .call { callee := .builtin .append, args := #[s, x], argTypes := #[22, 22] }) {base : Nat}
    {v : Value} {L M : PL} (hs : a.eval s = v) (hown : POwn w base v L) {x' : Value} (hxe : a.eval x = x') (hx : Reads w x' M) (hn : L.length + M.length < 1000000000000) (hbase : base ≤ w.heap.size)
    (h : ∀ v' w', POwn w' base v' (L ++ M) → w.grownBy w' v.ownBlock → (v'.ownBlock = v.ownBlock ∨ v'.ownBlock = some w.heap.size) → K (a.put o.dst v') w') : o.wp Try.prog a w K Q := by
  obtain ⟨v', w', hr, h2, h3, h4⟩ := run_appR w o.type hown hx hn hbase
  unfold Oper.wp execOp
  simp only [ho, resolve, invoke, builtin, Sem.run_bind, Sem.run_pure, Result.andThen_ok, List.map_toArray, List.map_cons, List.map_nil, hs, hxe, hr]
  exact h v' w' h2 h3 h4
theorem wpList_appR {ops : Array Oper} {rest : List Oper} {o : Oper} {w : World} {a : Act} {Q : Exit → Act → World → Prop} (hgd : o.guard = none) (s x : Operand)
    (ho : o.op = .call { callee := .builtin .append, args := #[s, x], argTypes := #[22, 22] }) {base : Nat}
    {v : Value} {L M : PL} (hs : a.eval s = v) (hown : POwn w base v L) {x' : Value} (hxe : a.eval x = x') (hx : Reads w x' M) (hn : L.length + M.length < 1000000000000) (hbase : base ≤ w.heap.size)
    (h : ∀ v' w', POwn w' base v' (L ++ M) → w.grownBy w' v.ownBlock → (v'.ownBlock = v.ownBlock ∨ v'.ownBlock = some w.heap.size) → wpList Try.prog ops Q rest (a.put o.dst v') w') : wpList Try.prog ops Q (o :: rest) a w :=
  wpList_plain hgd fun _ hK => wp_appR s x ho hs hown hxe hx hn hbase fun v' w' h1 h2 h3 => hK _ _ (h v' w' h1 h2 h3)
theorem step_appR {ops : Array Oper} {o : Oper} {w : World} {a : Act} {K : Act → World → Prop} {Q : Exit → Act → World → Prop} {E : Prop} (hgd : o.guard = none) (s x : Operand)
    (ho : o.op = .call { callee := .builtin .append, args := #[s, x], argTypes := #[22, 22] }) {base : Nat}
    {v : Value} {L M : PL} (hs : a.eval s = v) (hown : POwn w base v L) {x' : Value} (hxe : a.eval x = x') (hx : Reads w x' M) (hn : L.length + M.length < 1000000000000) (hbase : base ≤ w.heap.size)
    (h : ∀ v' w', POwn w' base v' (L ++ M) → w.grownBy w' v.ownBlock → (v'.ownBlock = v.ownBlock ∨ v'.ownBlock = some w.heap.size) → K (a.put o.dst v') w') :
    if Region.wanted o (yielded ops a.tmps) = true then Oper.wp Try.prog o a w K Q else E := by
  have hw : Region.wanted o (yielded ops a.tmps) = true := by simp [Region.wanted, hgd]
  rw [if_pos hw]
  exact wp_appR s x ho hs hown hxe hx hn hbase h
theorem pcellsL_drop : ∀ (X : PL) (k : Nat), pcellsL (X.drop k) = (pcellsL X).drop (k * 2)
  | X, 0 => by simp
  | [], k + 1 => by simp [pcellsL]
  | p :: X, k + 1 => by
    rw [List.drop_succ_cons, pcellsL_drop X k, pcellsL_cons, show (k + 1) * 2 = k * 2 + 1 + 1 by omega]
    rfl
theorem pcellsL_take : ∀ (X : PL) (k : Nat), pcellsL (X.take k) = (pcellsL X).take (k * 2)
  | X, 0 => by simp [pcellsL]
  | [], k + 1 => by simp [pcellsL]
  | p :: X, k + 1 => by
    rw [List.take_succ_cons, pcellsL_cons, pcellsL_take X k, pcellsL_cons, show (k + 1) * 2 = k * 2 + 1 + 1 by omega]
    rfl
theorem reads_drop {w : World} {base g cap : Nat} {X : PL} (h : POwn w base (.slice (some ⟨g, 0, none⟩) X.length cap) X) (k : Nat) (c : Nat) : Reads w (.slice (some ⟨g, k * 2, none⟩) (X.length - k) c) (X.drop k) := by
  refine .inr ⟨_, c, by rw [List.length_drop], fun j u hu => ?_⟩
  rw [pcellsL_drop, List.getElem?_drop] at hu
  have := World.ownsRow.cells h (g := g) rfl _ _ hu
  rw [add_none, Nat.zero_add] at this
  rw [add_none]
  exact this
theorem reads_take {w : World} {base g cap : Nat} {X : PL} (h : POwn w base (.slice (some ⟨g, 0, none⟩) X.length cap) X) {k : Nat} (hk : k ≤ X.length) (c : Nat) : Reads w (.slice (some ⟨g, 0, none⟩) k c) (X.take k) := by
  refine .inr ⟨⟨g, 0, none⟩, c, by rw [List.length_take, Nat.min_eq_left hk], fun j u hu => ?_⟩
  rw [pcellsL_take, List.getElem?_take] at hu
  split at hu
  · exact World.ownsRow.cells h (g := g) rfl _ _ hu
  · cases hu
theorem pown_form {w : World} {base : Nat} {v : Value} {X : PL} (h : POwn w base v X) : (v = .slice none 0 0 ∧ X = []) ∨ ∃ g cap, v = .slice (some ⟨g, 0, none⟩) X.length cap ∧ X.length ≤ cap := by
  rcases h.2 with ⟨rfl, h0⟩ | ⟨g, cap, cur, rfl, hg, hh, hnc, hm, hs, ht⟩
  · exact .inl ⟨rfl, List.eq_nil_of_length_eq_zero h0⟩
  · exact .inr ⟨_, _, rfl, hnc⟩
end Go.Proofs.Ytpgdioopkcfjdaa
