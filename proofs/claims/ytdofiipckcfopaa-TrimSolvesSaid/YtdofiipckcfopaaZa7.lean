/- slices.Concat of two rows of rows: what it computes. / A proof for what is left of a question, behind the units that were fixed, is a proof for the question itself. Plain. / trim.Solve: what it computes. -/
import Derived.Lib.AppendZeros
import Derived.Test.YtdofiipckcfopaaZa1
import Derived.Test.YtdofiipckcfopaaZa5
import Derived.Test.YtdofiipckcfopaaZd
import Derived.Test.YtdofiipckcfopaaZk
import Derived.Test.YtdofiipckcfopaaZm
import Derived.Test.YtdofiipckcfopaaZr
namespace Go.Proofs.Ytdofiipckcfopaa
open Go.RowKit
open S15

/-- the value of a slice, and its cells -/
def RdL (w : World) (x : Value) (ys : List Value) : Prop := (x = .slice none 0 0 ∧ ys = []) ∨ ∃ ad c, x = .slice (some ad) ys.length c ∧ (∀ j u, ys[j]? = some u → w.cell? (ad.add j) = some u) ∧ ∀ u ∈ ys, u.oneCell' = true
theorem RdL.up {w w' : World} {x : Value} {ys : List Value} (h : RdL w x ys) (hb : Below w.heap.size w w') : RdL w' x ys := by
  rcases h with h | ⟨ad, c, e, h1, h2⟩
  · exact .inl h
  · refine .inr ⟨ad, c, e, fun j u hu => ?_, h2⟩
    have := h1 j u hu
    rw [hb.cell (World.block_lt_of_cell? w _ this)]; exact this
theorem RdL.len {w : World} {x : Value} {ys : List Value} (h : RdL w x ys) : ∃ A c, x = .slice A ys.length c := by
  rcases h with ⟨rfl, rfl⟩ | ⟨ad, c, rfl, -, -⟩
  · exact ⟨_, _, rfl⟩
  · exact ⟨_, _, rfl⟩
theorem run_appL (w : World) (ty : TypeId) {base : Nat} {v x : Value} {xs ys : List Value} (hown : w.ownsRow base 27 1 v xs.length xs) (hx : RdL w x ys) (hn : xs.length + ys.length < 1000000000000) (hbase : base ≤ w.heap.size) :
    ∃ v' w', (Builtin.append_ #[22, 22] ty #[v, x]).run Try.prog w = .ok v' w' ∧ w'.ownsRow base 27 1 v' (xs ++ ys).length (xs ++ ys) ∧ w.grownBy w' v.ownBlock ∧ (v'.ownBlock = v.ownBlock ∨ v'.ownBlock = some w.heap.size) := by
  obtain ⟨i, hi, hz, hsz, hby⟩ := info_parts (show (Try.prog.info? 27).map (fun i => (i.zero, i.size, i.bytes)) = some (some (.slice none 0 0), 1, 24) by kernel_rfl)
  rcases hx with ⟨rfl, rfl⟩ | ⟨ad, c, rfl, hc, h1⟩
  · obtain ⟨p, cap, rfl, hcap⟩ : ∃ p cap, v = .slice p xs.length cap ∧ xs.length ≤ cap := by
      rcases hown.2 with ⟨rfl, h0⟩ | ⟨g, cap, cur, rfl, hg, hh, hnc, hm, hs, ht⟩
      · exact ⟨none, 0, by rw [h0], by omega⟩
      · exact ⟨_, _, rfl, hnc⟩
    refine ⟨.slice p xs.length cap, w, ?_, by rw [List.append_nil]; exact hown, ⟨rfl, rfl, rfl, Nat.le_refl _, fun _ _ _ => rfl⟩, .inl rfl⟩
    cases p <;> simp [Builtin.append_, run_underlying Try.underlying22, sizeOf, typeInfo, hi, Builtin.lenOf, Builtin.firstCells, hcap, storeCells]
  · obtain ⟨v', w', h2, h3, h4, -, h5⟩ := run_append_own_at (P := Try.prog) w base 22 ty 27 i _ 1 24 Try.underlying22 hi hz hsz hby (by simp [Value.cells]) (by omega) v xs.length xs hown ad ys.length c ys (by simp) hc h1 (by unfold maxLen; omega) (by omega) hbase
    exact ⟨v', w', h2, by rw [List.length_append]; exact h3, h4, h5⟩
theorem wp_appL {o : Oper} {w : World} {a : Act} {K : Act → World → Prop} {Q : Exit → Act → World → Prop} (s x : Operand)
    (ho : o.op = .call { callee := .builtin .append, args := #[s, x], argTypes := #[22, 22] }) {base : Nat}
    {v : Value} {xs ys : List Value} (hs : a.eval s = v) (hown : w.ownsRow base 27 1 v xs.length xs) {x' : Value} (hxe : a.eval x = x') (hx : RdL w x' ys) (hn : xs.length + ys.length < 1000000000000) (hbase : base ≤ w.heap.size)
    (h : ∀ v' w', w'.ownsRow base 27 1 v' (xs ++ ys).length (xs ++ ys) → w.grownBy w' v.ownBlock → (v'.ownBlock = v.ownBlock ∨ v'.ownBlock = some w.heap.size) → K (a.put o.dst v') w') : o.wp Try.prog a w K Q := by
  obtain ⟨v', w', hr, h2, h3, h4⟩ := run_appL w o.type hown hx hn hbase
  unfold Oper.wp execOp
  simp only [ho, resolve, invoke, builtin, Sem.run_bind, Sem.run_pure, Result.andThen_ok, List.map_toArray, List.map_cons, List.map_nil, hs, hxe, hr]
  exact h v' w' h2 h3 h4
theorem wpList_appL {ops : Array Oper} {rest : List Oper} {o : Oper} {w : World} {a : Act} {Q : Exit → Act → World → Prop} (hgd : o.guard = none) (s x : Operand)
    (ho : o.op = .call { callee := .builtin .append, args := #[s, x], argTypes := #[22, 22] }) {base : Nat}
    {v : Value} {xs ys : List Value} (hs : a.eval s = v) (hown : w.ownsRow base 27 1 v xs.length xs) {x' : Value} (hxe : a.eval x = x') (hx : RdL w x' ys) (hn : xs.length + ys.length < 1000000000000) (hbase : base ≤ w.heap.size)
    (h : ∀ v' w', w'.ownsRow base 27 1 v' (xs ++ ys).length (xs ++ ys) → w.grownBy w' v.ownBlock → (v'.ownBlock = v.ownBlock ∨ v'.ownBlock = some w.heap.size) → wpList Try.prog ops Q rest (a.put o.dst v') w') : wpList Try.prog ops Q (o :: rest) a w :=
  wpList_plain hgd fun _ hK => wp_appL s x ho hs hown hxe hx hn hbase fun v' w' h1 h2 h3 => hK _ _ (h v' w' h1 h2 h3)
/-- the cells of a row of rows that is read -/
theorem rows_cells {w : World} {S : Nat → Prop} {x : Value} {M : List (List Int)} (h : RIntss w S x M) (h0 : x = .slice none 0 0 ∨ 0 < M.length) : ∃ ys, RdL w x ys ∧ ys.length = M.length ∧ ∀ j (hj : j < M.length) u, ys[j]? = some u → RInts w S u M[j] := by
  obtain ⟨A, c, rfl, h1, -, -, hat⟩ := h.open2
  rcases Nat.eq_zero_or_pos M.length with e | e
  · have hM : M = [] := List.eq_nil_of_length_eq_zero e
    subst hM
    rcases h0 with h0 | h0
    · exact ⟨[], .inl ⟨h0, rfl⟩, rfl, fun j hj => absurd hj (by simp)⟩
    · exact absurd h0 (by simp)
  · obtain ⟨b, off, xs, rfl, -, hl, hc, hr⟩ := hat.vals e
    refine ⟨xs, .inr ⟨⟨b, off, none⟩, c, by rw [hl], fun j u hu => by rw [add_none]; exact hc j u hu, fun u hu => ?_⟩, hl, hr⟩
    obtain ⟨j, hj⟩ := List.mem_iff_getElem?.1 hu
    have hj2 : j < M.length := by rw [← hl]; exact (List.getElem?_eq_some_iff.1 hj).1
    obtain ⟨A2, c2, e2, -⟩ := (hr j hj2 u hj).open_
    rw [e2]; rfl
set_option maxRecDepth 100000 in
set_option maxHeartbeats 2000000 in
theorem GrowRs_any (n : Nat) (h0 : 0 < n) (hn : n ≤ 100000000) (w : World) :
    Calls Try.prog 35 #[.slice none 0 0, .int .i64 n] w fun e w' => ∃ v, e = .returned v ∧ w'.ownsRow w.heap.size 27 1 v 0 [] ∧ Below w.heap.size w w' := by
  obtain ⟨i, hi, hz, hsz, hby⟩ := info_parts (show (Try.prog.info? 27).map (fun i => (i.zero, i.size, i.bytes)) = some (some (.slice none 0 0), 1, 24) by kernel_rfl)
  have hrz : ∀ ty, (Builtin.append_ #[22, 3] ty #[.slice none 0 0, .int .i64 (n : Int)]).run Try.prog w = _ := fun ty => Go.Lib.run_append_nil_zeros w 22 3 ty 27 i (.slice none 0 0) .i64 .i64 Try.underlying22 Try.underlying3 hi hz n h0 (by omega) (by omega) (by rw [hby]; omega)
  have hG1 : n ≤ grownCap w n 0 27 := grownCap_ge w _ _ _
  have hG2 := grownCap_le_maxLen w n 0 27 (by unfold maxLen; omega)
  obtain ⟨G, hG⟩ : ∃ G, G = grownCap w n 0 27 := ⟨_, rfl⟩
  rw [← hG] at hrz hG1 hG2
  have hG63 : G ≤ 9223372036854775807 := by unfold maxLen at hG2; omega
  clear hG hi hz hsz hby
  have h1 : ¬ ((n : Int) < 0) := by omega
  have h4 : (n : Int) > 0 := by omega
  have Hm := Lib.hid hG2
  clear hG2
  go_enter Try.func35, Try.ntmps35
  go_wp2_with (at_builtin; refine Lib.wpList_append_run _ rfl _ _ _ _ rfl _ _ rfl rfl _ _ (hrz _) ?_)
  go_ret
  refine ⟨_, rfl, ⟨rfl, .inr ⟨w.heap.size, G, _, rfl, Nat.le_refl _, heap_alloc_new _ _, Nat.zero_le _, Hm.out, ?_, rfl⟩⟩, (below_drewN (Below.refl _ _) 1).alloc (Nat.le_refl _) _⟩
  simp [size_zeroCells]
  omega
set_option maxRecDepth 100000 in
set_option maxHeartbeats 4000000 in
theorem Concat_any {w : World} {S : Nat → Prop} {b : Nat} {x1 x2 : Value} {M1 M2 : List (List Int)} (hS : ∀ i, S i → i < w.heap.size) (hc1 : w.cell? ⟨b, 0, none⟩ = some x1) (hc2 : w.cell? ⟨b, 1, none⟩ = some x2) (h1 : RIntss w S x1 M1) (h2 : RIntss w S x2 M2)
    (e1 : x1 = .slice none 0 0 ∨ 0 < M1.length) (e2 : 0 < M2.length) (hl : M1.length + M2.length ≤ 100000000) :
    Calls Try.prog 25 #[.slice (some ⟨b, 0, none⟩) 2 2] w fun e w' => ∃ v, e = .returned v ∧ RIntss w' (fun i => S i ∨ (w.heap.size ≤ i ∧ i < w'.heap.size)) v (M1 ++ M2) ∧ Below w.heap.size w w' := by
  obtain ⟨ys1, hr1, hn1, hR1⟩ := rows_cells h1 e1
  obtain ⟨ys2, hr2, hn2, hR2⟩ := rows_cells h2 (.inr e2)
  obtain ⟨A1, c1, rfl⟩ := hr1.len
  obtain ⟨A2, c2, rfl⟩ := hr2.len
  have HS := Lib.hid hS
  clear hS
  have HR1 := Lib.hid hr1
  have HR2 := Lib.hid hr2
  have HRR := Lib.hid (show ∀ j (hj : j < (M1 ++ M2).length) u, (ys1 ++ ys2)[j]? = some u → RInts w S u (M1 ++ M2)[j] by
    intro j hj u hu
    rcases Nat.lt_or_ge j M1.length with k | k
    · rw [List.getElem_append_left k]
      rw [List.getElem?_append_left (by omega)] at hu
      exact hR1 j k u hu
    · rw [List.getElem_append_right k]
      rw [List.getElem?_append_right (by omega), hn1] at hu
      exact hR2 _ _ u hu)
  have HL := Lib.hid (show (M1 ++ M2).length = (ys1 ++ ys2).length by simp [hn1, hn2])
  obtain ⟨n1, hh1⟩ : ∃ n1, n1 = ys1.length := ⟨_, rfl⟩
  obtain ⟨n2, hh2⟩ : ∃ n2, n2 = ys2.length := ⟨_, rfl⟩
  have hn : n1 + n2 ≤ 100000000 := by omega
  have hp : 0 < n1 + n2 := by omega
  have HN1 := Lib.hid hh1
  have HN2 := Lib.hid hh2
  rw [← hh1] at hc1
  rw [← hh2] at hc2
  obtain ⟨N, hN⟩ : ∃ N, N = n1 + n2 := ⟨_, rfl⟩
  have HN := Lib.hid hN
  rw [← hN] at hn hp
  clear hr1 hr2 hR1 hR2 hn1 hn2 e1 e2 h1 h2 hh1 hh2 hl hN
  have hb2 : n1 ≤ 100000000 := by have := HN.out; omega
  have hb3 : n2 ≤ 100000000 := by have := HN.out; omega
  go_enter Try.func25, Try.ntmps25
  go_wp2
  go_loop [11, 3] (fun kv sv => (kv = .int .i64 0 ∧ sv = .int .i64 0) ∨ (kv = .int .i64 1 ∧ sv = .int .i64 n1) ∨ (kv = .int .i64 2 ∧ sv = .int .i64 N)) (fun kv _ => 2 - (intOf kv).toNat)
  case atStart => exact .inl ⟨rfl, rfl⟩
  case round =>
    rcases hrel with ⟨rfl, rfl⟩ | ⟨rfl, rfl⟩ | ⟨rfl, rfl⟩
    · go_wp2
      go_round
      case rel => exact .inr (.inl ⟨rfl, by go_num⟩)
      case measure => simp [intOf]
    · go_wp2
      go_round
      case rel => exact .inr (.inr ⟨rfl, by have := HN.out; go_num⟩)
      case measure => simp [intOf]
    · go_wp2_with (go_at_call 35; with_reducible refine (GrowRs_any N hp hn w).mono ?_; rintro e w1 ⟨v1, rfl, ho1, hb1⟩; have HO1 := Lib.hid ho1; have HB1 := Lib.hid hb1; clear ho1 hb1)
      go_loopw [27, 6] (fun kv vv wr => ∃ (j : Nat) (zs : List Value), j ≤ 2 ∧ kv = .int .i64 j ∧ Hid (j = 0 ∧ zs = [] ∨ j = 1 ∧ zs = ys1 ∨ j = 2 ∧ zs = ys1 ++ ys2) ∧ Hid (wr.ownsRow w.heap.size 27 1 vv zs.length zs) ∧ Hid (Below w.heap.size w wr)) (fun kv _ _ => 2 - (intOf kv).toNat)
      case atStart => exact ⟨0, [], by omega, rfl, Lib.hid (.inl ⟨rfl, rfl⟩), HO1, HB1⟩
      case round =>
        obtain ⟨w2, rfl⟩ : ∃ w0 : World, w0 = wr := ⟨_, rfl⟩
        obtain ⟨j, zs, hj, rfl, HZ, HO, HB⟩ := hrel
        have hcb : ∀ o u, w.cell? ⟨b, o, none⟩ = some u → w2.cell? ⟨b, o, none⟩ = some u := fun o u h => (HB.out.cell (p := ⟨b, o, none⟩) (World.block_lt_of_cell? w _ h)).trans h
        have hd1 := hcb _ _ hc1
        have hd2 := hcb _ _ hc2
        clear hcb
        have hbs := HB.out.size
        rcases HZ.out with ⟨rfl, rfl⟩ | ⟨rfl, hzs⟩ | ⟨rfl, hzs⟩
        · go_wp2_with (at_builtin; go_loud (refine wpList_appL rfl _ _ rfl rfl HO.out rfl (by rw [HN1.out]; exact HR1.out.up HB.out) (by have := HN1.out; simp; omega) hbs ?_); go_loud (intro v2 w3 hown2 hg2 hat2; have HO3 := Lib.hid hown2; have HB3 := Lib.hid (HB.out.grown hg2 hbs (fun k hk => (HO.out.lt k hk).1)); clear hown2 hg2 hat2))
          go_roundw
          case rel => exact ⟨1, ys1, by omega, by go_num, Lib.hid (.inr (.inl ⟨rfl, rfl⟩)), HO3, HB3⟩
          case measure => simp [intOf]
        · subst hzs
          go_wp2_with (at_builtin; refine wpList_appL rfl _ _ rfl rfl HO.out rfl (by rw [HN2.out]; exact HR2.out.up HB.out) (by have := HN1.out; have := HN2.out; omega) hbs ?_; go_loud (intro v2 w3 hown2 hg2 hat2; have HO3 := Lib.hid hown2; have HB3 := Lib.hid (HB.out.grown hg2 hbs (fun k hk => (HO.out.lt k hk).1)); clear hown2 hg2 hat2))
          go_roundw
          case rel => exact ⟨2, zs ++ ys2, by omega, by go_num, Lib.hid (.inr (.inr ⟨rfl, rfl⟩)), HO3, HB3⟩
          case measure => simp [intOf]
        · subst hzs
          go_wp2
          go_ret
          refine ⟨_, rfl, reads_of_own HO.out HL.out (fun g hg => .inr (HO.out.lt g hg)) fun k hk u hu => RInts.stable _ _ _ _ _ _ (HRR.out k hk u hu) (fun i hi => HB.out.block i (HS.out i hi)) fun i hi => .inl hi, HB.out⟩
end Go.Proofs.Ytdofiipckcfopaa

namespace Go.Proofs.Ytdofiipckcfopaa
open S15 (Clo Rup RupAll)
/-- a clause that is left, and the one it came of -/
def Left (C0 : Cls) (s : TrS) : Prop :=
  (∀ c ∈ s.C, ∃ D ∈ C0, (∀ m ∈ c, m ∈ D) ∧ ∀ Y, Clo (C0 ++ s.U.map fun n => [n]) Y → ∀ m ∈ D, m ∈ c ∨ Y (-m)) ∧ RupAll C0 (s.U.map fun n => [n])
theorem clo_sub {db db' : List (List Int)} {Y : Int → Prop} (h : Clo db' Y) (hs : ∀ C ∈ db, C ∈ db') : Clo db Y := ⟨fun C hC => h.ne C (hs C hC), fun C hC => h.un C (hs C hC), h.co⟩
theorem left_start (C0 : Cls) : Left C0 (startS C0) := ⟨fun c hc => ⟨c, hc, fun _ h => h, fun _ _ m hm => .inl hm⟩, fun i C h => by simp [startS] at h⟩
theorem left_sub {C0 : Cls} {s t : TrS} (h : Left C0 s) (hU : t.U = s.U) (hC : ∀ c ∈ t.C, ∃ c0 ∈ s.C, ∀ m, m ∈ c ↔ m ∈ c0) : Left C0 t := by
  obtain ⟨h1, h2⟩ := h
  refine ⟨fun c hc => ?_, by rw [hU]; exact h2⟩
  obtain ⟨c0, hc0, he⟩ := hC c hc
  obtain ⟨D, hD, k1, k2⟩ := h1 c0 hc0
  refine ⟨D, hD, fun m hm => k1 m ((he m).1 hm), fun Y hY m hm => ?_⟩
  rw [hU] at hY
  exact (k2 Y hY m hm).imp (he m).2 id
theorem Way.left {vars : Nat} {C0 : Cls} {s t : TrS} (h : Way vars s t) (hs : Left C0 s) : Left C0 t := by
  cases h with
  | twice i k hi hd =>
    refine left_sub hs rfl fun c hc => ?_
    rcases List.mem_or_eq_of_mem_set hc with e | e
    · exact ⟨c, e, fun _ => Iff.rfl⟩
    · exact ⟨atC s.C i, atC_mem hi, fun m => by rw [e]; exact dup_mem hd m⟩
  | always i hi hb => exact left_sub hs rfl fun c hc => ⟨c, List.mem_of_mem_eraseIdx hc, fun _ => Iff.rfl⟩
  | empty he =>
    refine left_sub hs rfl fun c hc => ⟨[], he, fun m => ?_⟩
    rw [List.mem_singleton.1 hc]
  | unit n hn =>
    obtain ⟨h1, h2⟩ := hs
    have hU : (s.U ++ [n]).map (fun n => [n]) = s.U.map (fun n => [n]) ++ [[n]] := by simp
    refine ⟨fun c hc => ?_, ?_⟩
    · obtain ⟨c0, hc0, hnc, rfl⟩ := mem_fix.1 hc
      obtain ⟨D, hD, k1, k2⟩ := h1 c0 hc0
      refine ⟨D, hD, fun m hm => k1 m (List.mem_filter.1 hm).1, fun Y hY m hm => ?_⟩
      have hY2 : Clo (C0 ++ (s.U.map (fun n => [n]) ++ [[n]])) Y := by rw [← hU]; exact hY
      have hYn : Y n := hY2.un [n] (by simp) n (by simp) fun m hm hne => (hne (by simpa using hm)).elim
      rcases k2 Y (clo_sub hY2 fun C hC => by
        rcases List.mem_append.1 hC with e | e
        · exact List.mem_append_left _ e
        · exact List.mem_append_right _ (List.mem_append_left _ e)) m hm with e | e
      · by_cases e2 : m = -n
        · right; rw [e2, Int.neg_neg]; exact hYn
        · left; exact List.mem_filter.2 ⟨e, by simpa using e2⟩
      · exact .inr e
    · show RupAll C0 ((s.U ++ [n]).map fun n => [n])
      rw [hU]
      refine h2.snoc fun Y hY hC => ?_
      obtain ⟨D, hD, k1, k2⟩ := h1 [n] hn
      obtain ⟨m, hm, hm2⟩ := hY.ne D (List.mem_append_left _ hD)
      rcases k2 Y hY m hm with e | e
      · rw [List.mem_singleton.1 e] at hm2
        exact hm2 (hC n (by simp))
      · exact hm2 e
  | pure n h1 h2 h3 =>
    refine left_sub hs rfl fun c hc => ?_
    obtain ⟨c0, hc0, hnc, rfl⟩ := mem_fix.1 hc
    refine ⟨c0, hc0, fun m => ?_⟩
    rw [List.mem_filter]
    refine ⟨fun e => e.1, fun e => ⟨e, ?_⟩⟩
    have : m ≠ -n := fun e2 => by
      have : posB s.C (-n) = true := posB_iff.2 ⟨c0, hc0, e2 ▸ e⟩
      rw [h3] at this; cases this
    simpa using this
  | cover i k hi hk hb => exact left_sub hs rfl fun c hc => ⟨c, List.mem_of_mem_eraseIdx hc, fun _ => Iff.rfl⟩
theorem Steps.left {vars : Nat} {C0 : Cls} {s t : TrS} (h : Steps vars s t) (hs : Left C0 s) : Left C0 t := by
  induction h with
  | refl s => exact hs
  | head _ h2 _ ih => exact ih ((way_of h2).left hs)
theorem Left.rupAll {C0 : Cls} {t : TrS} {p : List (List Int)} (h : Left C0 t) (hp : RupAll t.C p) : RupAll C0 ((t.U.map fun n => [n]) ++ p) := fun i C hi => by
  obtain ⟨h1, h2⟩ := h
  obtain ⟨u, hu⟩ : ∃ u, u = t.U.map fun n => [n] := ⟨_, rfl⟩
  rw [← hu] at hi h1 h2 ⊢
  rcases Nat.lt_or_ge i u.length with k | k
  · rw [List.getElem?_append_left k] at hi
    rw [List.take_append_of_le_length (Nat.le_of_lt k)]
    exact h2 i C hi
  · rw [List.getElem?_append_right k] at hi
    rw [List.take_append, List.take_of_length_le k]
    intro Y hY hC
    refine hp (i - u.length) C hi Y ⟨fun c hc => ?_, fun c hc n hn hm => ?_, hY.co⟩ hC
    · rcases List.mem_append.1 hc with e | e
      · obtain ⟨D, hD, k1, k2⟩ := h1 c e
        obtain ⟨m, hm, hm2⟩ := hY.ne D (List.mem_append_left _ hD)
        rcases k2 Y (clo_sub hY fun E hE => by
          rcases List.mem_append.1 hE with e | e
          · exact List.mem_append_left _ e
          · exact List.mem_append_right _ (List.mem_append_left _ e)) m hm with e2 | e2
        · exact ⟨m, e2, hm2⟩
        · exact (hm2 e2).elim
      · exact hY.ne c (List.mem_append_right _ (List.mem_append_right _ e))
    · rcases List.mem_append.1 hc with e | e
      · obtain ⟨D, hD, k1, k2⟩ := h1 c e
        refine hY.un D (List.mem_append_left _ hD) n (k1 n hn) fun m hm2 hne => ?_
        rcases k2 Y (clo_sub hY fun E hE => by
          rcases List.mem_append.1 hE with e | e
          · exact List.mem_append_left _ e
          · exact List.mem_append_right _ (List.mem_append_left _ e)) m hm2 with e2 | e2
        · exact hm m e2 hne
        · exact e2
      · exact hY.un c (List.mem_append_right _ (List.mem_append_right _ e)) n hn hm
end Go.Proofs.Ytdofiipckcfopaa

namespace Go.Proofs.Ytdofiipckcfopaa
open Go.RowKit
open S15 (AnsAll AnsOk AnsPb SolveR SAns AnsV solve_law forget_any results_row2S set4R)

/-- how an answer lies in memory -/
def TAnsV (w : World) (S : Nat → Prop) (v : Value) (n : Nat) (t : TrS) : SAns → Prop
  | .opn k => v = .agg #[.int .i64 3, .slice none 0 0, .slice none 0 0, .int .i64 (k : Int)]
  | .unsat p k => ∃ pv, v = .agg #[.int .i64 2, .slice none 0 0, pv, .int .i64 (k : Int)] ∧ RIntss w S pv ((t.U.map fun n => [n]) ++ p)
  | .sat tr k => ∃ tv, v = .agg #[.int .i64 1, tv, .slice none 0 0, .int .i64 (k : Int)] ∧ RBools w S tv (growT n t.F tr)
theorem box4 {w w1 : World} {a b c d : Value} {t : TypeId} (h : Below (w.alloc (.cells #[a, b, c, d] t)).heap.size (w.alloc (.cells #[a, b, c, d] t)) w1) :
    w1.cell? ⟨w.heap.size, 0, none⟩ = some a ∧ w1.cell? ⟨w.heap.size, 1, none⟩ = some b ∧ w1.cell? ⟨w.heap.size, 2, none⟩ = some c ∧ w1.cell? ⟨w.heap.size, 3, none⟩ = some d := ⟨box_cell h 0, box_cell h 1, box_cell h 2, box_cell h 3⟩
theorem lit1 (w : World) (x : Int) (t t2 : TypeId) (o : Array Value) : RInts ((w.alloc (.cells #[.int .i64 x] t)).alloc (.cells o t2)) (fun b => w.heap.size ≤ b ∧ b < ((w.alloc (.cells #[.int .i64 x] t)).alloc (.cells o t2)).heap.size) (.slice (some ⟨w.heap.size, 0, none⟩) 1 1) [x] := by
  refine ⟨some ⟨w.heap.size, 0, none⟩, 1, rfl, Nat.le_refl _, by unfold maxLen; omega, fun _ => ⟨w.heap.size, 0, rfl, ⟨Nat.le_refl _, by simp; omega⟩, fun k hk => ?_⟩⟩
  have : k = 0 := by simpa using hk
  subst this
  exact ⟨.int .i64 x, cell_of_row _ _ 0 _ _ (0, 0) (heap_at_alloc (heap_alloc_new w _)), rfl⟩
theorem ag5 {S : Nat → Prop} {w : World} {P rb : Nat} (h : ∀ b, S b → b ≠ P ∧ b ≠ rb) (j : Nat) (q x y z u : Value) : Ag S w (((((w.setCell ⟨P, j, none⟩ q).setCell ⟨rb, 0, none⟩ x).setCell ⟨rb, 1, none⟩ y).setCell ⟨rb, 2, none⟩ z).setCell ⟨rb, 3, none⟩ u) := by
  have a1 : ∀ (w : World) (b j : Nat) (q : Value), Ag (fun c => c ≠ b) w (w.setCell ⟨b, j, none⟩ q) := fun w b j q => ag_setCell w ⟨b, j, none⟩ q
  exact (((((a1 _ _ _ _).sub (T := S) fun b hb => (h b hb).1).trans ((a1 _ _ _ _).sub fun b hb => (h b hb).2)).trans ((a1 _ _ _ _).sub fun b hb => (h b hb).2)).trans ((a1 _ _ _ _).sub fun b hb => (h b hb).2)).trans ((a1 _ _ _ _).sub fun b hb => (h b hb).2)
set_option maxRecDepth 100000 in
set_option maxHeartbeats 8000000 in
theorem TSolve_any {w : World} {n most : Nat} {s : Value} {C : Cls} (hs : RIntss w (Lt w.heap.size) s C) (hm : satMayN n C = 0) (hmost : most ≤ 2000000) :
    Calls Try.prog 17 #[.agg #[.int .i64 (n : Int), s], .int .i64 (most : Int)] w fun e w' => ∃ t a v, RunTo n (startS C) t ∧ AnsOk t.C n most a ∧ AnsPb n most a ∧ SolveR t.C n most a ∧ e = .returned (.tuple #[v, .int .i64 0]) ∧ TAnsV w' (Lt w'.heap.size) v n t a ∧ Below w.heap.size w w' := by
  obtain ⟨h0, h1, h2, h3⟩ := satMay_ok hm
  rw [Int.toNat_natCast] at h3
  have hn : n ≤ 1024 := by omega
  obtain ⟨A, c, rfl, -⟩ := hs.open_
  have Hs := Lib.hid hs
  have Hm := Lib.hid hm
  have H3 := Lib.hid h3
  have HMy := Lib.hid (satMay_any n (.slice A C.length c) C)
  obtain ⟨B0, hB0⟩ : ∃ B0, B0 = w.heap.size := ⟨_, rfl⟩
  have HB0 := Lib.hid hB0
  have hz0 : decide ((most : Int) < 0) = false := decide_eq_false (by omega)
  obtain ⟨w2, hw2⟩ : ∃ w2, w2 = (w.alloc (.cells #[.int .i64 (n : Int), .slice A C.length c] 24)).alloc (.cells #[.int .i64 0, .slice none 0 0, .slice none 0 0, .int .i64 0] 47) := ⟨_, rfl⟩
  have Hw2 := Lib.hid hw2
  have hw2s : w2.heap.size = B0 + 2 := by rw [hw2, hB0]; simp
  have Hb2 := Lib.hid (show Below B0 w w2 by rw [hw2, hB0]; exact (below_alloc w _).alloc (by simp) _)
  have HK := Lib.hid (fun (W : World) (h : Below w2.heap.size w2 W) => show (W.cell? ⟨B0, 0, none⟩ = some (.int .i64 (n : Int)) ∧ W.cell? ⟨B0, 1, none⟩ = some (.slice A C.length c)) ∧ W.heap[B0 + 1]? = some (.cells #[.int .i64 0, .slice none 0 0, .slice none 0 0, .int .i64 0] 47 (0, 0)) by
    rw [hw2] at h
    rw [hB0]
    refine ⟨⟨box_a h 0, box_a h 1⟩, ?_⟩
    rw [h.block _ (by simp)]
    have := heap_alloc_new (w.alloc (.cells #[.int .i64 (n : Int), .slice A C.length c] 24)) (.cells #[.int .i64 0, .slice none 0 0, .slice none 0 0, .int .i64 0] 47)
    rwa [World.size_alloc] at this)
  have Hw2s := Lib.hid hw2s
  clear hm hs h0 h1 h3 hw2 hw2s
  rw [← hB0]
  clear hB0
  go_enter Try.func17, Try.ntmps17
  go_wp2_with fail
  rw [← HB0.out, ← Hw2.out]
  have HMay := Lib.hid (HMy.out w2 (RIntss.stable.up Hs.out (by rw [← HB0.out]; exact Hb2.out)))
  clear HMy
  go_wp2_with (first
    | (go_at_call 19; with_reducible refine HMay.out.mono ?_; rintro e w3 ⟨rfl, b3⟩; go_loud (rw [Hm.out]; have HB3 := Lib.hid b3; obtain ⟨⟨k0, k1⟩, -⟩ := HK.out w3 b3; clear b3))
    | (go_at_call 20; go_loud (with_reducible refine (start_any n _ C w3 (RIntss.stable.up Hs.out (by rw [← HB0.out]; exact Hb2.out.trans (HB3.out.mono (by rw [Hw2s.out]; omega)))) H3.out hn h2).mono ?_; rintro e w4 hq; unfold StartPost at hq; obtain ⟨g, t, rfl, hg, hrun, hwk, b4⟩ := hq; have Hrun := Lib.hid hrun; have Hwk := Lib.hid hwk; have HB4 := Lib.hid (HB3.out.trans (b4.mono HB3.out.size)); have Hg := Lib.hid hg; clear k0 k1 hg hrun hwk b4))
    | (go_at_call 21; with_reducible refine (trimmed_any g n t w4 Hwk.out).mono ?_; rintro e w5 ⟨vC, vF, rfl, hrC, hrF, b5⟩; go_loud (obtain ⟨AC, kC, rfl⟩ := hrC.shape; obtain ⟨AF, kF, rfl⟩ := hrF.shape; have HrC := Lib.hid hrC; have HrF := Lib.hid hrF; have HB5 := Lib.hid b5; clear hrC hrF b5; unfold cells3)))
  obtain ⟨T0, hT0⟩ : ∃ T0, T0 = w5.heap.size := ⟨_, rfl⟩
  obtain ⟨w6, hw6⟩ : ∃ w6, w6 = w5.alloc (.cells #[.int .i64 (n : Int), .slice AC t.C.length kC, .slice AF t.F.length kF] 29) := ⟨_, rfl⟩
  have HTc := Lib.hid (fun (W : World) (h : Below w6.heap.size w6 W) => show W.cell? ⟨T0, 0, none⟩ = some (.int .i64 (n : Int)) ∧ W.cell? ⟨T0, 1, none⟩ = some (.slice AC t.C.length kC) ∧ W.cell? ⟨T0, 2, none⟩ = some (.slice AF t.F.length kF) by
    rw [hw6] at h; rw [hT0]; exact box3 h)
  have Hb56 := Lib.hid (show Below w5.heap.size w5 w6 by rw [hw6]; exact below_alloc _ _)
  have HB6 := Lib.hid (show Below w2.heap.size w2 w6 from HB4.out.trans ((HB5.out.trans (Hb56.out.mono HB5.out.size)).mono HB4.out.size))
  have HT0 := Lib.hid (show T0 < w6.heap.size by rw [hw6, hT0]; simp)
  rw [← hw6, ← hT0]
  have HE := Lib.hid (ended hn h2 H3.out Hrun.out)
  have Hgl := Lib.hid (show g < w4.heap.size by obtain ⟨vC, vF, vU, cs, h⟩ := Hwk.out; exact h.lt)
  have HU := Lib.hid (show ∃ AU kU, w4.cell? ⟨g, 3, none⟩ = some (.slice AU t.U.length kU) ∧ RInts w4 (Over g w4) (.slice AU t.U.length kU) t.U by
    obtain ⟨vC, vF, vU, cs, h⟩ := Hwk.out
    have := h.cell.2.2.2.1
    have hr := h.readsU
    obtain ⟨AU, kU, rfl⟩ := hr.shape
    exact ⟨_, _, this, hr⟩)
  clear hw6 hT0
  have HrC6 := Lib.hid (RIntss.stable.wide (RIntss.stable.over HrC.out Hb56.out))
  have HrF6 := Lib.hid (RInts.stable.wide (RInts.stable.over HrF.out Hb56.out))
  refine (solve_law (most := most) HrC6.out HE.out.may hmost (fun _ => forget_any)).mono ?_
  rintro e w7 ⟨a, ev, kv, A1, A2, n1, c1, n2, c2, rfl, ha, b7⟩
  have HTc7 := HTc.out w7 b7
  have HA := Lib.hid ha
  have HB7 := Lib.hid b7
  have HBx := Lib.hid (HB6.out.trans (b7.mono HB6.out.size))
  clear b7
  cases a with
  | opn k =>
    have h1 := ha.rd
    injection h1 with e
    simp only [Array.mk.injEq, List.cons.injEq, Value.int.injEq, Value.slice.injEq, true_and, and_true] at e
    obtain ⟨rfl, ⟨rfl, rfl, rfl⟩, ⟨rfl, rfl, rfl⟩, rfl⟩ := e
    clear ha HTc7
    obtain ⟨-, r7⟩ := HK.out w7 HBx.out
    obtain ⟨s0, s1, s2, s3, sf⟩ := S15.res_at (heap_at_alloc (o := .cells #[.int .i64 3, .slice none 0 0, .slice none 0 0, .int .i64 (k : Int)] 47) r7)
    have R7 := Lib.hid (heap_at_alloc (o := .cells #[.int .i64 3, .slice none 0 0, .slice none 0 0, .int .i64 (k : Int)] 47) r7)
    clear r7
    go_wp2
    refine bodyPost_ret (results_row2S rfl _ _ (B0 + 1) _ _ (0, 0) _ rfl (set4R R7.out _ _ _ _) Try.underlying47 rfl (by kernel_rfl)) rfl ?_
    refine ⟨t, .opn k, _, Hrun.out, HA.out.ok, HA.out.pb, HA.out.sr, rfl, rfl, S15.below4R (HB0.out ▸ ((Hb2.out.trans (HBx.out.mono (by rw [Hw2s.out]; omega))).alloc (by have := HBx.out.size; rw [Hw2s.out] at this; omega) _)) (by omega) _ _ _ _⟩
  | sat tr k =>
    obtain ⟨tv, h1, hr⟩ := ha.rd
    injection h1 with e
    simp only [Array.mk.injEq, List.cons.injEq, Value.int.injEq, Value.slice.injEq, true_and, and_true] at e
    obtain ⟨rfl, rfl, ⟨rfl, rfl, rfl⟩, rfl⟩ := e
    obtain ⟨w8, hw8⟩ : ∃ w8, w8 = w7.alloc (.cells #[.int .i64 1, .slice A1 n1 c1, .slice none 0 0, .int .i64 (k : Int)] 47) := ⟨_, rfl⟩
    obtain ⟨P, hP⟩ : ∃ P, P = w7.heap.size := ⟨_, rfl⟩
    have Hb78 := Lib.hid (show Below w7.heap.size w7 w8 by rw [hw8]; exact below_alloc _ _)
    have HP := Lib.hid (show P < w8.heap.size ∧ B0 + 2 ≤ P by rw [hw8, hP]; have := HBx.out.size; rw [Hw2s.out] at this; simp; omega)
    have HGr := Lib.hid (show Calls Try.prog 14 #[.agg #[.int .i64 (n : Int), .slice AC t.C.length kC, .slice AF t.F.length kF], .slice A1 n1 c1] w8 fun e w' => ∃ v, e = .returned v ∧ RBools w' (Over0 w8 w') v (growT n t.F tr) ∧ Below w8.heap.size w8 w' by
      refine (Grow_any (n : Int) (.slice AC t.C.length kC) _ _ t.F tr w8 (RInts.stable.up HrF6.out (HB7.out.trans (Hb78.out.mono HB7.out.size))) (RBools.stable _ _ _ _ _ _ hr (fun b hb => Hb78.out.block b hb.2) fun b hb => Nat.lt_of_lt_of_le hb.2 Hb78.out.size) ⟨_, _, _, rfl⟩ (by omega) (fun x hx => by obtain ⟨_, a, b⟩ := (run_grows H3.out Hrun.out).1.lits x hx; omega)).mono ?_
      intro e w' h
      unfold GrowPost at h
      rwa [Int.toNat_natCast] at h)
    have r8 : w8.heap[P]? = some (.cells #[.int .i64 1, .slice A1 n1 c1, .slice none 0 0, .int .i64 (k : Int)] 47 (0, 0)) := by rw [hw8, hP]; exact heap_alloc_new _ _
    have R8 := Lib.hid r8
    have Hw8 := Lib.hid hw8
    have HPe := Lib.hid hP
    have HTc8 := HTc.out w8 (HB7.out.trans (Hb78.out.mono HB7.out.size))
    have ha1 : w8.cell? ⟨P, 1, none⟩ = some (.slice A1 n1 c1) := by rw [cell_of_row _ _ 1 _ _ _ r8]; rfl
    have hT7 : T0 < w7.heap.size := Nat.lt_of_lt_of_le HT0.out HB7.out.size
    clear ha hr r8 hw8 hP HTc8 ha1
    go_wp2_with fail
    rw [← Hw8.out, ← HPe.out]
    refine HGr.out.mono ?_
    rintro e w9 ⟨gv, rfl, hg9, b9⟩
    obtain ⟨AG, cG, rfl⟩ := hg9.shape
    have HG9 := Lib.hid hg9
    have HB89 := Lib.hid b9
    have HB9 := Lib.hid (HBx.out.trans ((Hb78.out.trans (b9.mono Hb78.out.size)).mono HBx.out.size))
    have r9 := (b9.block _ HP.out.1).trans R8.out
    have p0 := cell_of_row _ _ 0 _ _ _ r9
    have p1 := cell_of_row _ _ 1 _ _ _ r9
    have p2 := cell_of_row _ _ 2 _ _ _ r9
    have p3 := cell_of_row _ _ 3 _ _ _ r9
    have pf := fun j => frozen_of_row w9 P j _ _ r9
    have q9 := (HK.out w9 HB9.out).2
    obtain ⟨s0, s1, s2, s3, sf⟩ := S15.res_at q9
    have Q9 := Lib.hid q9
    have hPB : ¬ P = B0 + 1 := by have := HP.out; omega
    have hBP : ¬ B0 + 1 = P := by have := HP.out; omega
    have hBz : B0 + 1 < w9.heap.size := by have := HB9.out.size; rw [Hw2s.out] at this; omega
    clear hg9 b9 r9 q9 HTc7
    go_wp2
    refine bodyPost_ret (results_row2S rfl _ _ (B0 + 1) _ _ (0, 0) _ rfl (set4R (by rw [Below.heap_setCell _ _ _ _ (by simpa using hBP)]; exact Q9.out) _ _ _ _) Try.underlying47 rfl (by kernel_rfl)) rfl ?_
    refine ⟨t, .sat tr k, _, Hrun.out, HA.out.ok, HA.out.pb, HA.out.sr, rfl, ⟨_, rfl, ?_⟩, S15.below4R (HB0.out ▸ ((Hb2.out.trans (HB9.out.mono (by rw [Hw2s.out]; omega))).setCell (p := ⟨P, 1, none⟩) (by have := HP.out; show B0 ≤ P; omega) _)) (by omega) _ _ _ _⟩
    refine RBools.stable _ _ _ _ _ _ HG9.out (ag5 (fun b (hb : Over0 w8 w9 b) => ?_) _ _ _ _ _ _) fun b (hb : Over0 w8 w9 b) => ?_
    · have h1 := HP.out; have h2 := hb.1; omega
    · have h2 := hb.2; simpa using h2
  | unsat p k =>
    obtain ⟨pv, h1, hr⟩ := ha.rd
    injection h1 with e
    simp only [Array.mk.injEq, List.cons.injEq, Value.int.injEq, Value.slice.injEq, true_and, and_true] at e
    obtain ⟨rfl, ⟨rfl, rfl, rfl⟩, rfl, rfl⟩ := e
    obtain ⟨w8, hw8⟩ : ∃ w8, w8 = w7.alloc (.cells #[.int .i64 2, .slice none 0 0, .slice A2 n2 c2, .int .i64 (k : Int)] 47) := ⟨_, rfl⟩
    obtain ⟨P, hP⟩ : ∃ P, P = w7.heap.size := ⟨_, rfl⟩
    have Hb78 := Lib.hid (show Below w7.heap.size w7 w8 by rw [hw8]; exact below_alloc _ _)
    have HP := Lib.hid (show P < w8.heap.size ∧ B0 + 2 ≤ P ∧ w6.heap.size ≤ P ∧ w8.heap.size = P + 1 by rw [hw8, hP]; have := HBx.out.size; rw [Hw2s.out] at this; have h2 := HB7.out.size; simp; omega)
    have r8 : w8.heap[P]? = some (.cells #[.int .i64 2, .slice none 0 0, .slice A2 n2 c2, .int .i64 (k : Int)] 47 (0, 0)) := by rw [hw8, hP]; exact heap_alloc_new _ _
    have R8 := Lib.hid r8
    have Hw8 := Lib.hid hw8
    have HPe := Lib.hid hP
    have Hpv := Lib.hid hr
    obtain ⟨AU, kU, hu4, hrU⟩ := HU.out
    have Hb48 := Lib.hid (show Below w4.heap.size w4 w8 from ((HB5.out.trans (Hb56.out.mono HB5.out.size)).trans ((HB7.out.trans (Hb78.out.mono HB7.out.size)).mono (Nat.le_trans HB5.out.size Hb56.out.size))))
    have hu8 := (Hb48.out.cell (p := ⟨g, 3, none⟩) Hgl.out).trans hu4
    have hu7 : w7.cell? ⟨g, 3, none⟩ = some (.slice AU t.U.length kU) := ((HB5.out.trans (Hb56.out.mono HB5.out.size)).trans (HB7.out.mono (Nat.le_trans HB5.out.size Hb56.out.size))).cell (p := ⟨g, 3, none⟩) Hgl.out |>.trans hu4
    have HrU := Lib.hid hrU
    have hg7 : g < w7.heap.size := Nat.lt_of_lt_of_le Hgl.out (Nat.le_trans (Nat.le_trans HB5.out.size Hb56.out.size) HB7.out.size)
    clear ha hr r8 hw8 hP HTc7 hu4 hrU
    go_wp2_with fail
    rw [← Hw8.out, ← HPe.out]
    have hhg0 : ∀ j (hj : j < t.U.length), ∃ b off, AU = some ⟨b, off, none⟩ ∧ b < w4.heap.size ∧ w4.cell? ⟨b, off + j, none⟩ = some (.int .i64 t.U[j]) := by
      intro j hj
      obtain ⟨A', c', e', _, hat⟩ := HrU.out.open_
      simp only [Value.slice.injEq] at e'
      obtain ⟨rfl, _, rfl⟩ := e'
      obtain ⟨b, off, e, hS, hc⟩ := hat (by omega)
      obtain ⟨u, hu, rfl⟩ := hc j hj
      exact ⟨b, off, e, hS.2, hu⟩
    have Hel := Lib.hid hhg0
    have hUl : t.U.length ≤ 100000 := by
      have h9 := Hrun.out.1.ok (startOk H3.out)
      have := h9.2.1; have := h9.2.2; omega
    have HUl := Lib.hid hUl
    have hP8 : P < w8.heap.size := HP.out.1
    have hP9 : w8.heap.size = P + 1 := HP.out.2.2.2
    have HP9 := Lib.hid hP9
    clear hhg0 hu8 hu7 hg7 hP9
    go_loopw [57, 11] (fun kv vv wr => ∃ (j : Nat) (us : List Value), j ≤ t.U.length ∧ kv = .int .i64 j ∧ Hid (RowsG RInts 27 wr (P + 1) vv us ((t.U.take j).map fun n => [n])) ∧ Hid (Below (P + 1) w8 wr) ∧ Hid (j = 0 → vv = .slice none 0 0)) (fun kv _ _ => t.U.length - (intOf kv).toNat)
    case atStart => exact ⟨0, [], Nat.zero_le _, rfl, Lib.hid (RowsG.nil _ _ _ _), Lib.hid (Below.refl _ _), Lib.hid (fun _ => rfl)⟩
    case round =>
      obtain ⟨wj, rfl⟩ : ∃ w0 : World, w0 = wr := ⟨_, rfl⟩
      obtain ⟨j, us, hj, rfl, HR, HBj, HZ⟩ := hrel
      rcases Nat.lt_or_ge j t.U.length with hlt | hge
      · obtain ⟨b, off, rfl, hb, hcu⟩ := Hel.out j hlt
        have hb8 : b < w8.heap.size := Nat.lt_of_lt_of_le hb Hb48.out.size
        have hcj : wj.cell? ⟨b, off + j, none⟩ = some (.int .i64 t.U[j]) := (HBj.out.cell (p := ⟨b, off + j, none⟩) (by rw [← HP9.out]; exact hb8)).trans ((Hb48.out.cell (p := ⟨b, off + j, none⟩) hb).trans hcu)
        clear hb hcu hb8
        obtain ⟨AV, kV, hvv⟩ := own_shape HR.out.own
        have hlen : ((t.U.take j).map fun n => [n]).length = j := by simp; omega
        rw [hlen] at hvv
        subst hvv
        have HO := Lib.hid (show wj.ownsRow (P + 1) 27 1 (.slice AV j kV) j us by have := HR.out.own; rwa [hlen] at this)
        have Hlen := Lib.hid hlen
        have hbs : P + 1 ≤ wj.heap.size := by have := HBj.out.size; rw [HP9.out] at this; exact this
        have HBS := Lib.hid hbs
        have Hnx := Lib.hid (List.take_succ_eq_append_getElem hlt)
        clear hlen
        go_wp2_with (at_builtin; go_loud (refine wpList_push rfl _ _ _ rfl eRow (v := .slice AV j kV) rfl ((HO.out.alloc _).alloc _) (wj.heap.size + 1) (.slice (some ⟨wj.heap.size, 0, none⟩) 1 1) rfl (by simp [go_sem]) rfl (by omega) (by simp; omega) ?_; intro v2 w3 hown2 hg2 hat2; have HO3 := Lib.hid hown2; have HG3 := Lib.hid hg2; have HT3 := Lib.hid hat2; clear hown2 hg2 hat2))
        have hpu := HR.out.push RInts.stable (B := P + 1) HBS.out ((below_alloc wj (.cells #[.int .i64 t.U[j]] 3)).alloc (by simp) (.cells #[.slice (some ⟨wj.heap.size, 0, none⟩) 1 1] 27)) (u := .slice (some ⟨wj.heap.size, 0, none⟩) 1 1) (c := [t.U[j]]) (lit1 _ _ _ _ _) (by rw [Hlen.out]; exact HO3.out) HG3.out HT3.out
        rw [show ((t.U.take j).map fun n => [n]) ++ [[t.U[j]]] = (t.U.take (j + 1)).map fun n => [n] by rw [Hnx.out, List.map_append]; rfl] at hpu
        have HR3 := Lib.hid hpu
        have HB3' := Lib.hid (HBj.out.trans ((((below_alloc wj (.cells #[.int .i64 t.U[j]] 3)).alloc (by simp) (.cells #[.slice (some ⟨wj.heap.size, 0, none⟩) 1 1] 27)).mono HBS.out).grown HG3.out (by simp; omega) (fun k hk => (HR.out.lt k hk).1)))
        clear hpu
        go_roundw
        case rel => exact ⟨j + 1, _, by omega, by go_num, HR3, HB3', Lib.hid (fun h => absurd h (by omega))⟩
        case measure => simp [intOf]; omega
      · obtain rfl : j = t.U.length := by omega
        rw [List.take_length] at HR
        obtain ⟨AV, kV, hvv⟩ := own_shape HR.out.own
        rw [List.length_map] at hvv
        subst hvv
        have hbs : P + 1 ≤ wj.heap.size := by have := HBj.out.size; rw [HP9.out] at this; exact this
        have HBS := Lib.hid hbs
        obtain ⟨p', hp', hrup, hne⟩ := HA.out.ok.2
        have hpl := HA.out.pb.2
        have HPp := Lib.hid (show 0 < p.length by rw [hp']; simp)
        have Hb68 := Lib.hid (HB7.out.trans (Hb78.out.mono HB7.out.size))
        have r9 := (HBj.out.block P (Nat.lt_succ_self _)).trans R8.out
        have HBz := Lib.hid (show Below w2.heap.size w2 wj from (HBx.out.trans (Hb78.out.mono HBx.out.size)).trans (HBj.out.mono (by rw [Hw2s.out]; have := HP.out; omega)))
        have q9 := (HK.out wj HBz.out).2
        obtain ⟨wd, hwd⟩ : ∃ wd, wd = wj.alloc (.cells #[.slice AV t.U.length kV, .slice A2 n2 c2] 22) := ⟨_, rfl⟩
        obtain ⟨D, hD⟩ : ∃ D, D = wj.heap.size := ⟨_, rfl⟩
        have Hbd := Lib.hid (show Below wj.heap.size wj wd by rw [hwd]; exact below_alloc _ _)
        have hds : wd.heap.size = wj.heap.size + 1 := by rw [hwd]; simp
        have HC := Lib.hid (show Calls Try.prog 25 #[.slice (some ⟨D, 0, none⟩) 2 2] wd fun e w' => ∃ v, e = .returned v ∧ RIntss w' (fun i => ((P + 1 ≤ i ∧ i < wj.heap.size) ∨ (w6.heap.size ≤ i ∧ i < w7.heap.size)) ∨ (wd.heap.size ≤ i ∧ i < w'.heap.size)) v ((t.U.map fun n => [n]) ++ p) ∧ Below wd.heap.size wd w' by
          have hP7 := HPe.out
          refine Concat_any (S := fun i => (P + 1 ≤ i ∧ i < wj.heap.size) ∨ (w6.heap.size ≤ i ∧ i < w7.heap.size)) (x1 := .slice AV t.U.length kV) (x2 := .slice A2 n2 c2) ?_ ?_ ?_ ?_ ?_ ?_ HPp.out ?_
          · intro i hi; rcases hi with hi | hi <;> omega
          · rw [hwd, hD]; exact cell_of_row _ _ 0 _ _ (0, 0) (heap_alloc_new _ _)
          · rw [hwd, hD]; exact cell_of_row _ _ 1 _ _ (0, 0) (heap_alloc_new _ _)
          · exact RIntss.stable _ _ _ _ _ _ (HR.out.reads RInts.stable) (fun b hb => Hbd.out.block b hb.2) fun b hb => .inl hb
          · exact RIntss.stable _ _ _ _ _ _ Hpv.out (fun b hb => (Hbd.out.block b (by omega)).trans ((HBj.out.block b (by omega)).trans (Hb78.out.block b hb.2))) fun b hb => .inr hb
          · rcases Nat.eq_zero_or_pos t.U.length with h | h
            · exact .inl (HZ.out h)
            · right; simpa using h
          · rw [List.length_map]; omega)
        have p2 := cell_of_row _ _ 2 _ _ _ r9
        have Hwd := Lib.hid hwd
        have HD := Lib.hid hD
        have R9 := Lib.hid r9
        have hPl : P < wj.heap.size := by omega
        clear r9 q9 hp' hrup hne hpl hwd hD hds hbs
        go_wp2_with fail
        rw [← Hwd.out, ← HD.out]
        refine HC.out.mono ?_
        rintro e w9 ⟨gv, rfl, hg9, b9⟩
        obtain ⟨AG, cG, hge9⟩ := hg9.shape
        rw [show ((t.U.map fun n => [n]) ++ p).length = t.U.length + p.length by simp] at hge9
        subst hge9
        have HG9 := Lib.hid hg9
        have HB9 := Lib.hid (HBz.out.trans ((Hbd.out.trans (b9.mono Hbd.out.size)).mono HBz.out.size))
        have Hbj9 := Lib.hid (Hbd.out.trans (b9.mono Hbd.out.size))
        have r9 := (Hbj9.out.block P hPl).trans R9.out
        have p0 := cell_of_row _ _ 0 _ _ _ r9
        have p1 := cell_of_row _ _ 1 _ _ _ r9
        have p2 := cell_of_row _ _ 2 _ _ _ r9
        have p3 := cell_of_row _ _ 3 _ _ _ r9
        have pf := fun j => frozen_of_row w9 P j _ _ r9
        have q9 := (HK.out w9 HB9.out).2
        obtain ⟨s0, s1, s2, s3, sf⟩ := S15.res_at q9
        have Q9 := Lib.hid q9
        have hPB : ¬ P = B0 + 1 := by have := HP.out; omega
        have hBP : ¬ B0 + 1 = P := by have := HP.out; omega
        have hBz : B0 + 1 < w9.heap.size := by have := HB9.out.size; rw [Hw2s.out] at this; omega
        clear hg9 b9 r9 q9
        go_wp2
        refine bodyPost_ret (results_row2S rfl _ _ (B0 + 1) _ _ (0, 0) _ rfl (set4R (by rw [Below.heap_setCell _ _ _ _ (by simpa using hBP)]; exact Q9.out) _ _ _ _) Try.underlying47 rfl (by kernel_rfl)) rfl ?_
        refine ⟨t, .unsat p k, _, Hrun.out, HA.out.ok, HA.out.pb, HA.out.sr, rfl, ⟨_, rfl, ?_⟩, S15.below4R (HB0.out ▸ ((Hb2.out.trans (HB9.out.mono (by rw [Hw2s.out]; omega))).setCell (p := ⟨P, 2, none⟩) (by have := HP.out; show B0 ≤ P; omega) _)) (by omega) _ _ _ _⟩
        have hs1 := HPe.out
        have hs2 := HP.out
        have hs3 := Hbd.out.size
        have hs4 := HBS.out
        have hs5 := HB6.out.size
        rw [Hw2s.out] at hs5
        refine RIntss.stable _ _ _ _ _ _ HG9.out (ag5 (fun b hb => ?_) _ _ _ _ _ _) fun b hb => ?_
        · rcases hb with (hb | hb) | hb <;> omega
        · have hs6 := Hbj9.out.size
          have hs7 : b < w9.heap.size := by rcases hb with (hb | hb) | hb <;> omega
          simpa using hs7
end Go.Proofs.Ytdofiipckcfopaa
