/- One row of rows appended to another, whatever is in either; arguments of bounded bulk. -/
import Derived.Test.YtdepdceaojenoaaRows
import Derived.Test.YtdepdceaojenoaaZs
namespace Go.Proofs.Ytdepdceaojenoaa
open Go.RowKit Go.ChangeShapes Go.WideShapes Go.ChangeAt Go.Deep Go.Joins

/-- the value of a slice, and its cells -/
def RdL (w : World) (x : Value) (ys : List Value) : Prop := (x = .slice none 0 0 ∧ ys = []) ∨ ∃ ad c, x = .slice (some ad) ys.length c ∧ (∀ j u, ys[j]? = some u → w.cell? (ad.add j) = some u) ∧ ∀ u ∈ ys, u.oneCell' = true
theorem RdL.up {w w' : World} {x : Value} {ys : List Value} (h : RdL w x ys) (hb : Below w.heap.size w w') : RdL w' x ys := by
  rcases h with h | ⟨ad, c, e, h1, h2⟩
  · exact .inl h
  · refine .inr ⟨ad, c, e, fun j u hu => ?_, h2⟩
    have := h1 j u hu
    rw [hb.cell (World.block_lt_of_cell? w _ this)]; exact this
theorem run_appL (w : World) (ty : TypeId) {base : Nat} {v x : Value} {xs ys : List Value} (hown : w.ownsRow base 26 1 v xs.length xs) (hx : RdL w x ys) (hn : xs.length + ys.length < 1000000000000) (hbase : base ≤ w.heap.size) :
    ∃ v' w', (Builtin.append_ #[22, 22] ty #[v, x]).run Try.prog w = .ok v' w' ∧ w'.ownsRow base 26 1 v' (xs ++ ys).length (xs ++ ys) ∧ w.grownBy w' v.ownBlock ∧ (v'.ownBlock = v.ownBlock ∨ v'.ownBlock = some w.heap.size) := by
  obtain ⟨i, hi, hz, hsz, hby⟩ := info_parts (show (Try.prog.info? 26).map (fun i => (i.zero, i.size, i.bytes)) = some (some (.slice none 0 0), 1, 24) by kernel_rfl)
  rcases hx with ⟨rfl, rfl⟩ | ⟨ad, c, rfl, hc, h1⟩
  · obtain ⟨p, cap, rfl, hcap⟩ : ∃ p cap, v = .slice p xs.length cap ∧ xs.length ≤ cap := by
      rcases hown.2 with ⟨rfl, h0⟩ | ⟨g, cap, cur, rfl, hg, hh, hnc, hm, hs, ht⟩
      · exact ⟨none, 0, by rw [h0], by omega⟩
      · exact ⟨_, _, rfl, hnc⟩
    refine ⟨.slice p xs.length cap, w, ?_, by rw [List.append_nil]; exact hown, ⟨rfl, rfl, rfl, Nat.le_refl _, fun _ _ _ => rfl⟩, .inl rfl⟩
    cases p <;> simp [Builtin.append_, run_underlying Try.underlying22, sizeOf, typeInfo, hi, Builtin.lenOf, Builtin.firstCells, hcap, storeCells]
  · obtain ⟨v', w', h2, h3, h4, -, h5⟩ := run_append_own_at (P := Try.prog) w base 22 ty 26 i _ 1 24 Try.underlying22 hi hz hsz hby (by simp [Value.cells]) (by omega) v xs.length xs hown ad ys.length c ys (by simp) hc h1 (by unfold maxLen; omega) (by omega) hbase
    exact ⟨v', w', h2, by rw [List.length_append]; exact h3, h4, h5⟩
theorem wp_appL {o : Oper} {w : World} {a : Act} {K : Act → World → Prop} {Q : Exit → Act → World → Prop} (s x : Operand)
    (ho : o.op = .call { callee := .builtin .append, args := #[s, x], argTypes := #[22, 22] }) {base : Nat}
    {v : Value} {xs ys : List Value} (hs : a.eval s = v) (hown : w.ownsRow base 26 1 v xs.length xs) {x' : Value} (hxe : a.eval x = x') (hx : RdL w x' ys) (hn : xs.length + ys.length < 1000000000000) (hbase : base ≤ w.heap.size)
    (h : ∀ v' w', w'.ownsRow base 26 1 v' (xs ++ ys).length (xs ++ ys) → w.grownBy w' v.ownBlock → (v'.ownBlock = v.ownBlock ∨ v'.ownBlock = some w.heap.size) → K (a.put o.dst v') w') : o.wp Try.prog a w K Q := by
  obtain ⟨v', w', hr, h2, h3, h4⟩ := run_appL w o.type hown hx hn hbase
  unfold Oper.wp execOp
  simp only [ho, resolve, invoke, builtin, Sem.run_bind, Sem.run_pure, Result.andThen_ok, List.map_toArray, List.map_cons, List.map_nil, hs, hxe, hr]
  exact h v' w' h2 h3 h4
theorem step_appL {ops : Array Oper} {o : Oper} {w : World} {a : Act} {K : Act → World → Prop} {Q : Exit → Act → World → Prop} {E : Prop} (hgd : o.guard = none) (s x : Operand)
    (ho : o.op = .call { callee := .builtin .append, args := #[s, x], argTypes := #[22, 22] }) {base : Nat}
    {v : Value} {xs ys : List Value} (hs : a.eval s = v) (hown : w.ownsRow base 26 1 v xs.length xs) {x' : Value} (hxe : a.eval x = x') (hx : RdL w x' ys) (hn : xs.length + ys.length < 1000000000000) (hbase : base ≤ w.heap.size)
    (h : ∀ v' w', w'.ownsRow base 26 1 v' (xs ++ ys).length (xs ++ ys) → w.grownBy w' v.ownBlock → (v'.ownBlock = v.ownBlock ∨ v'.ownBlock = some w.heap.size) → K (a.put o.dst v') w') :
    if Region.wanted o (yielded ops a.tmps) = true then Oper.wp Try.prog o a w K Q else E := by
  have hw : Region.wanted o (yielded ops a.tmps) = true := by simp [Region.wanted, hgd]
  rw [if_pos hw]
  exact wp_appL s x ho hs hown hxe hx hn hbase h
/-- the cells of a row of rows that is read -/
theorem rows_cells {w : World} {S : Nat → Prop} {x : Value} {M : List (List Int)} (h : RIntss w S x M) (h0 : ∀ c, x ≠ .slice none 0 (c + 1)) : ∃ ys, RdL w x ys ∧ ys.length = M.length ∧ ∀ j (hj : j < M.length) u, ys[j]? = some u → RInts w S u M[j] := by
  obtain ⟨A, c, rfl, h1, -, -, hat⟩ := h.open2
  rcases Nat.eq_zero_or_pos M.length with e | e
  · have hM : M = [] := List.eq_nil_of_length_eq_zero e
    subst hM
    cases A with
    | none =>
      have : c = 0 := by
        cases c with
        | zero => rfl
        | succ c => exact (h0 c rfl).elim
      subst this
      exact ⟨[], .inl ⟨rfl, rfl⟩, rfl, fun j hj => absurd hj (by simp)⟩
    | some q => exact ⟨[], .inr ⟨q, c, rfl, fun j u hu => by simp at hu, fun u hu => by simp at hu⟩, rfl, fun j hj => absurd hj (by simp)⟩
  · obtain ⟨b, off, xs, rfl, -, hl, hc, hr⟩ := hat.vals e
    refine ⟨xs, .inr ⟨⟨b, off, none⟩, c, by rw [hl], fun j u hu => by rw [add_none]; exact hc j u hu, fun u hu => ?_⟩, hl, hr⟩
    obtain ⟨j, hj⟩ := List.mem_iff_getElem?.1 hu
    have hj2 : j < M.length := by rw [← hl]; exact (List.getElem?_eq_some_iff.1 hj).1
    obtain ⟨A2, c2, e2, -⟩ := (hr j hj2 u hj).open_
    rw [e2]; rfl
/-- an argument of so much bulk at the most -/
def ArgB (w : World) (t : TypeId) (v : Value) (N : Nat) : Prop :=
  ∃ (H : Type) (enc : TypeId × Value → H) (base : Nat) (d : DataW H) (p : List MemPlace), Value.okWide Try.prog w .any base t v ∧ DataW.Trod enc Try.prog w 0 (fun _ => true) true t v d p ∧ (∀ x ∈ p, x.block < w.heap.size) ∧ Rows.uptoBulk d ≤ N
theorem bulk_len {H : Type} : ∀ l : List (DataW H), l.length ≤ Rows.uptoBulkAll l
  | [] => Nat.zero_le _
  | d :: l => by
    have h1 : 1 ≤ Rows.uptoBulk d := by
      cases d with
      | lit l => cases l <;> simp [Rows.uptoBulk]
      | _ => simp [Rows.uptoBulk]
    have := bulk_len l
    simp only [Rows.uptoBulkAll, List.length_cons]; omega
theorem rows_bulk {H : Type} {enc : TypeId × Value → H} {w : World} {fuel : Nat} {v : Value} {x : DataW H × List MemPlace} {S : Nat → Prop} {M : List (List Int)} (h : DataW.trod enc Try.prog w 0 (fun _ => true) true fuel 22 [v] = some x) (hM : RIntss w S v M) : M.length ≤ Rows.uptoBulk x.1 ∧ ∀ c, v ≠ .slice none 0 (c + 1) := by
  obtain ⟨A, c, rfl, -⟩ := hM.open_
  rcases open_slice Try.underlying22 h with ⟨e, rfl⟩ | ⟨a, len, cap, m, n, D, Pl, e, _, hlc, hcm, hm, rfl, hat⟩
  · simp only [List.cons.injEq, Value.slice.injEq, and_true] at e
    obtain ⟨e1, e2, e3⟩ := e
    exact ⟨by omega, fun c2 e4 => by simp at e4; omega⟩
  · simp only [List.cons.injEq, Value.slice.injEq, and_true] at e
    obtain ⟨e1, e2, e3⟩ := e
    refine ⟨?_, fun c2 e4 => by rw [e1] at e4; simp at e4⟩
    have := bulk_len ((List.range len).map D)
    simp only [List.length_map, List.length_range] at this
    simp only [Rows.uptoBulk]; omega
set_option maxRecDepth 100000 in
theorem arg_rowsB {w : World} {v : Value} {N : Nat} (h : ArgB w 22 v N) : ∃ M, RIntss w (Lt w.heap.size) v M ∧ M.length ≤ N ∧ ∀ c, v ≠ .slice none 0 (c + 1) := by
  obtain ⟨H, enc, base, d, p, hv, ⟨fuel, hf⟩, hlt, hb⟩ := h
  obtain ⟨a0, len, cap, rfl⟩ := okWide_slice Try.underlying22 hv
  have hf2 : DataW.trod enc Try.prog w 0 (fun _ => true) true fuel 22 [.slice a0 len cap] = some (d, p) := by simpa [Value.cells] using hf
  obtain ⟨u, M, e, r⟩ := reads1_intss hf2 hlt
  simp at e
  subst e
  obtain ⟨k1, k2⟩ := rows_bulk hf2 r
  exact ⟨M, r, Nat.le_trans k1 hb, k2⟩
set_option maxRecDepth 100000 in
theorem arg_questionB {w : World} {v : Value} {N : Nat} (h : ArgB w 24 v N) : ∃ n s C, v = .agg #[.int .i64 n, s] ∧ RIntss w (Lt w.heap.size) s C ∧ C.length ≤ N ∧ (∀ c, s ≠ .slice none 0 (c + 1)) ∧ -9223372036854775808 ≤ n ∧ n ≤ 9223372036854775807 := by
  obtain ⟨H, enc, base, d, p, hv, ⟨fuel, hf⟩, hlt, hb⟩ := h
  obtain ⟨cs, rfl, hsz⟩ := okWide_struct Try.underlying24 hv
  obtain ⟨c0, c1, rfl⟩ := array2 (hsz.trans (by kernel_rfl))
  obtain ⟨y0, y1, n, hx, _, g0, g1⟩ := trod_struct2 Try.underlying24 hf
  simp only [Prod.mk.injEq] at hx
  obtain ⟨rfl, rfl⟩ := hx
  have k1 : Try.prog.cellsOf 3 = 1 := by kernel_rfl
  have k2 : Try.prog.cellsOf 22 = 1 := by kernel_rfl
  obtain ⟨u0, x0, e0, r0⟩ := reads1_int Try.underlying3 (by simpa [Value.cells, k1] using g0) (fun q hq => hlt q (by simp [hq]))
  have g1' : DataW.trod enc Try.prog w 0 (fun _ => true) true n 22 [c1] = some y1 := by simpa [Value.cells, k2] using g1
  obtain ⟨u1, C, e1, r1⟩ := reads1_intss g1' (fun q hq => hlt q (by simp [hq]))
  simp at e0 e1
  subst e0 e1
  obtain ⟨rfl, b1, b2⟩ := r0
  obtain ⟨q1, q2⟩ := rows_bulk g1' r1
  simp only [Rows.uptoBulk, Rows.uptoBulkAll] at hb
  exact ⟨x0, _, C, rfl, r1, by omega, q2, b1, b2⟩
/-- what fewer clauses are -/
theorem may_sub {n : Int} {M C : List (List Int)} (h : satMayN n (M ++ C) = 0) : satMayN n C = 0 := by
  unfold satMayN at h ⊢
  split at h
  · cases h
  · split at h
    · cases h
    · split at h
      · cases h
      · split at h
        · cases h
        · rename_i h1 h2 h3 h4
          simp only [Bool.not_eq_true, List.any_append, Bool.or_eq_false_iff, List.length_append] at h1 h2 h3 h4
          rw [if_neg (by omega), if_neg (by rw [h2.2]; simp), if_neg h3, if_neg (by rw [h4.2]; simp)]
theorem some_sub {n : Nat} {M C : List (List Int)} (h : someN C n = false) : someN (M ++ C) n = false := by
  cases e : someN (M ++ C) n with
  | false => rfl
  | true =>
    obtain ⟨o, h1, h2⟩ := someN_iff.1 e
    rw [List.all_append, Bool.and_eq_true] at h2
    rw [← h, ← someN_iff.2 ⟨o, h1, h2.2⟩]
end Go.Proofs.Ytdepdceaojenoaa
