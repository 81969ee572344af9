/- A row appended to a row, whatever is in either: elements of any number of cells. / The references: Some, Blamed. / The reference's Least. -/
import Derived.Lib.SliceRun
import Derived.Deep.DeepCutAuto
import Derived.Deep.RegionHeld
import Derived.Test.YtcebafeaikipmaaCb1
import Derived.Test.YtcebafeaikipmaaCb5
namespace Go.Proofs.Ytcebafeaikipmaa
open Go.RowKit

/-- the value of a slice of m elements, and its cells -/
def RdN (w : World) (x : Value) (size m : Nat) (ys : List Value) : Prop := (x = .slice none 0 0 ∧ m = 0 ∧ ys = []) ∨ ∃ ad c, x = .slice (some ad) m c ∧ ys.length = m * size ∧ (∀ j u, ys[j]? = some u → w.cell? (ad.add j) = some u) ∧ ∀ u ∈ ys, u.oneCell' = true
theorem RdN.up {w w' : World} {x : Value} {size m : Nat} {ys : List Value} (h : RdN w x size m ys) (hb : Below w.heap.size w w') : RdN w' x size m ys := by
  rcases h with h | ⟨ad, c, e, h0, h1, h2⟩
  · exact .inl h
  · refine .inr ⟨ad, c, e, h0, fun j u hu => ?_, h2⟩
    have := h1 j u hu
    rw [hb.cell (World.block_lt_of_cell? w _ this)]; exact this
theorem run_appN {P : Program} (w : World) (ty : TypeId) {t e : TypeId} {size bytes : Nat} (he : ElemN P t e size bytes) {base k m : Nat} {v x : Value} {xs ys : List Value} (hown : w.ownsRow base e size v k xs) (hx : RdN w x size m ys) (hn : k + m < 1000000000000) (hbase : base ≤ w.heap.size) :
    ∃ v' w', (Builtin.append_ #[t, t] ty #[v, x]).run P w = .ok v' w' ∧ w'.ownsRow base e size v' (k + m) (xs ++ ys) ∧ w.grownBy w' v.ownBlock ∧ (v'.ownBlock = v.ownBlock ∨ v'.ownBlock = some w.heap.size) := by
  obtain ⟨ht, hb, hs0, i, z, hi, hz, hsz, hby, hzs⟩ := he
  rcases hx with ⟨rfl, rfl, rfl⟩ | ⟨ad, c, rfl, hl, hc, h1⟩
  · obtain ⟨p, cap, rfl, hcap⟩ : ∃ p cap, v = .slice p k cap ∧ k ≤ cap := by
      rcases hown.2 with ⟨rfl, h0⟩ | ⟨g, cap, cur, rfl, hg, hh, hnc, hm, hs, ht⟩
      · exact ⟨none, 0, by rw [h0], by omega⟩
      · exact ⟨_, _, rfl, hnc⟩
    refine ⟨.slice p k cap, w, ?_, by rw [List.append_nil]; exact hown, ⟨rfl, rfl, rfl, Nat.le_refl _, fun _ _ _ => rfl⟩, .inl rfl⟩
    cases p <;> simp [Builtin.append_, run_underlying ht, sizeOf, typeInfo, hi, Builtin.lenOf, Builtin.firstCells, hcap, storeCells]
  · obtain ⟨v', w', h2, h3, h4, -, h5⟩ := run_append_own_at (P := P) w base t ty e i z size bytes ht hi hz hsz hby hzs hs0 v k xs hown ad m c ys hl hc h1 (by unfold maxLen; omega) (by
      have : (k + m) * bytes ≤ 1000000000000 * 128 := Nat.mul_le_mul (by omega) hb
      omega) hbase
    exact ⟨v', w', h2, h3, h4, h5⟩
theorem wp_appN {P : Program} {o : Oper} {w : World} {a : Act} {K : Act → World → Prop} {Q : Exit → Act → World → Prop} (s x : Operand) (t : TypeId)
    (ho : o.op = .call { callee := .builtin .append, args := #[s, x], argTypes := #[t, t] }) {e : TypeId} {size bytes : Nat} (he : ElemN P t e size bytes) {base k m : Nat}
    {v : Value} {xs ys : List Value} (hs : a.eval s = v) (hown : w.ownsRow base e size v k xs) {x' : Value} (hxe : a.eval x = x') (hx : RdN w x' size m ys) (hn : k + m < 1000000000000) (hbase : base ≤ w.heap.size)
    (h : ∀ v' w', w'.ownsRow base e size v' (k + m) (xs ++ ys) → w.grownBy w' v.ownBlock → (v'.ownBlock = v.ownBlock ∨ v'.ownBlock = some w.heap.size) → K (a.put o.dst v') w') : o.wp P a w K Q := by
  obtain ⟨v', w', hr, h2, h3, h4⟩ := run_appN w o.type he hown hx hn hbase
  unfold Oper.wp execOp
  simp only [ho, resolve, invoke, builtin, Sem.run_bind, Sem.run_pure, Result.andThen_ok, List.map_toArray, List.map_cons, List.map_nil, hs, hxe, hr]
  exact h v' w' h2 h3 h4
theorem wpList_appN {P : Program} {ops : Array Oper} {rest : List Oper} {o : Oper} {w : World} {a : Act} {Q : Exit → Act → World → Prop} (hgd : o.guard = none) (s x : Operand) (t : TypeId)
    (ho : o.op = .call { callee := .builtin .append, args := #[s, x], argTypes := #[t, t] }) {e : TypeId} {size bytes : Nat} (he : ElemN P t e size bytes) {base k m : Nat}
    {v : Value} {xs ys : List Value} (hs : a.eval s = v) (hown : w.ownsRow base e size v k xs) {x' : Value} (hxe : a.eval x = x') (hx : RdN w x' size m ys) (hn : k + m < 1000000000000) (hbase : base ≤ w.heap.size)
    (h : ∀ v' w', w'.ownsRow base e size v' (k + m) (xs ++ ys) → w.grownBy w' v.ownBlock → (v'.ownBlock = v.ownBlock ∨ v'.ownBlock = some w.heap.size) → wpList P ops Q rest (a.put o.dst v') w') : wpList P ops Q (o :: rest) a w :=
  wpList_plain hgd fun _ hK => wp_appN s x t ho he hs hown hxe hx hn hbase fun v' w' h1 h2 h3 => hK _ _ (h v' w' h1 h2 h3)
theorem flat_lenN {α : Type} {n : Nat} {cells : α → List Value} (hc : ∀ x, (cells x).length = n) : ∀ l : List α, (l.flatMap cells).length = l.length * n
  | [] => by simp
  | x :: l => by rw [List.flatMap_cons, List.length_append, hc, flat_lenN hc l, List.length_cons, Nat.succ_mul]; omega
/-- a row of variables of n cells each, that is read -/
theorem rdN_of {α : Type} {n : Nat} {cells : α → List Value} (hn : 0 < n) (hc : ∀ x, (cells x).length = n) (h1 : ∀ x, ∀ u ∈ cells x, u.oneCell' = true) {w : World} {S : Nat → Prop} {v : Value} {l : List α} (h : RArr n (VCells cells) w S v l) (h0 : v = .slice none 0 0 ∨ 0 < l.length ∨ ∃ a m c, v = .slice (some a) m c) : RdN w v n l.length (l.flatMap cells) := by
  obtain ⟨A, c, rfl, hm, hat⟩ := h.open_
  cases A with
  | none =>
    have hl : l = [] := by
      cases l with
      | nil => rfl
      | cons x r => obtain ⟨b, off, e, _⟩ := hat (by simp); cases e
    subst hl
    rcases h0 with h0 | h0 | ⟨a, m, c', h0⟩
    · exact .inl ⟨h0, rfl, rfl⟩
    · simp at h0
    · simp at h0
  | some A =>
    refine .inr ⟨A, c, rfl, flat_lenN hc l, fun j u hu => ?_, fun u hu => ?_⟩
    · have hj := (List.getElem?_eq_some_iff.1 hu).1
      have hfl : (l.flatMap cells).length = l.length * n := flat_lenN hc l
      have hj2 : j / n < l.length := (Nat.div_lt_iff_lt_mul hn).2 (by omega)
      obtain ⟨b, off, e, hb, hcc⟩ := hat (Nat.lt_of_le_of_lt (Nat.zero_le _) hj2)
      cases e
      rw [add_none]
      have hmod : j % n < n := Nat.mod_lt _ hn
      have hdm : j / n * n + j % n = j := by rw [Nat.mul_comm]; exact Nat.div_add_mod j n
      have := hcc (j / n) hj2 (j % n) u (by rw [← flatMap_cells hc l (j / n) (j % n) hj2 hmod, hdm]; exact hu)
      rwa [show off + j / n * n + j % n = off + j by omega] at this
    · obtain ⟨x, _, hx⟩ := List.mem_flatMap.1 hu
      exact h1 x u hx
end Go.Proofs.Ytcebafeaikipmaa

namespace Go.Proofs.Ytcebafeaikipmaa
open Go.RowKit

theorem eInt8 : ElemN Try.prog 37 3 1 8 := elemN_mk Try.underlying37 (by kernel_rfl) (by omega) (by omega)
def intCell (x : Int) : List Value := [.int .i64 x]
theorem flat_int : ∀ l : List Int, l.flatMap intCell = l.map (Value.int .i64)
  | [] => rfl
  | x :: l => by rw [List.flatMap_cons, flat_int l]; rfl
theorem ints_rdN {w : World} {S : Nat → Prop} {v : Value} {l : List Int} (h : RInts w S v l) (h0 : v = .slice none 0 0 ∨ ∃ a m c, v = .slice (some a) m c) : RdN w v 1 l.length (l.map (Value.int .i64)) := by
  rw [← flat_int]
  refine rdN_of (n := 1) (cells := intCell) Nat.one_pos (fun _ => rfl) (fun x u hu => by simp [intCell] at hu; subst hu; rfl) (S := S) ?_ (by rcases h0 with h0 | h0; exact .inl h0; exact .inr (.inr h0))
  obtain ⟨A, c, rfl, h1, h2, h3⟩ := h
  refine ⟨A, c, rfl, h1, h2, fun hp => ?_⟩
  obtain ⟨b, off, e, hb, hc⟩ := h3 hp
  refine ⟨b, off, e, hb, fun k hk j u hu => ?_⟩
  obtain ⟨x, hx, rfl⟩ := hc k hk
  simp only [intCell] at hu
  match j with
  | 0 => simp at hu; subst hu; simpa using hx
  | j + 1 => simp at hu
set_option maxRecDepth 100000 in
set_option maxHeartbeats 4000000 in
theorem some18_any (items : List ItemD) (wss : List (List (List Int))) (r : Int) (A0 A1 : Option Addr) (c0 c1 : Nat) (hn : items.length ≤ 1000) : ∀ (f : Nat) (taken : List Int) (s2 : Value) (w : World), f ≤ items.length → taken.length + f ≤ items.length →
    RItems w (Lt w.heap.size) (.slice A0 items.length c0) items → RIntsss w (Lt w.heap.size) (.slice A1 wss.length c1) wss → RInts w (Lt w.heap.size) s2 taken → (s2 = .slice none 0 0 ∨ ∃ a m c, s2 = .slice (some a) m c) →
    Calls Try.prog 30 #[.agg #[.slice A0 items.length c0, .slice A1 wss.length c1, .int .i64 r], .int .i64 ((items.length - f : Nat) : Int), s2] w fun e w' => e = .returned (.bool (someR items wss r f taken)) ∧ Below w.heap.size w w' := by
  intro f
  induction f with
  | zero =>
    intro taken s2 w hf ht h0 hw h2 hs2
    obtain ⟨A2, c2, rfl, hm2, -⟩ := h2.open_
    have H0 := Lib.hid h0
    have HW := Lib.hid hw
    have H2 := Lib.hid h2
    have hb0 := below_alloc w (.cells #[.slice A0 items.length c0, .slice A1 wss.length c1, .int .i64 r] 25)
    have HR := Lib.hid (refRight_any (.slice A0 items.length c0) (.slice A1 wss.length c1) (.slice A2 taken.length c2) r items wss taken _ (RItems.stable.up h0 hb0) (RIntsss.stable.up hw hb0) (RInts.stable.up h2 hb0))
    have Hb0 := Lib.hid hb0
    rw [show items.length - 0 = items.length from rfl]
    clear h0 hw h2 hb0 hs2
    go_enter Try.func30, Try.ntmps30
    go_wp2_with (go_at_call 38; with_reducible refine HR.out.mono ?_; rintro e w1 ⟨rfl, b1⟩; go_loud (have HB1 := Lib.hid (Hb0.out.trans (b1.mono Hb0.out.size)); clear b1))
    go_ret
    exact ⟨rfl, HB1.out⟩
  | succ f ih =>
    intro taken s2 w hf ht h0 hw h2 hs2
    obtain ⟨A2, c2, rfl, hm2, -⟩ := h2.open_
    have H0 := Lib.hid h0
    have HW := Lib.hid hw
    have H2 := Lib.hid h2
    have HRd := Lib.hid (ints_rdN h2 hs2)
    have Hs2 := Lib.hid hs2
    have Hih := Lib.hid ih
    obtain ⟨q, hq⟩ : ∃ q, q = items.length - (f + 1) := ⟨_, rfl⟩
    have hqf : items.length - f = q + 1 := by omega
    have hq2 : q ≤ 1000 := by omega
    have Hq := Lib.hid hq
    rw [hqf] at Hih
    have hsr : someR items wss r (f + 1) taken = (someR items wss r f taken || someR items wss r f (taken ++ [(q : Int)])) := by rw [someR, ← hq]
    rw [← hq, hsr]
    have htl : taken.length ≤ 1000 := by omega
    have Htf := Lib.hid (show taken.length + (f + 1) ≤ items.length from ht)
    obtain ⟨w1, hw1⟩ : ∃ w1, w1 = w.alloc (.cells #[.slice A0 items.length c0, .slice A1 wss.length c1, .int .i64 r] 25) := ⟨_, rfl⟩
    have Hb0 := Lib.hid (show Below w.heap.size w w1 by rw [hw1]; exact below_alloc _ _)
    have hs1 : w1.heap.size = w.heap.size + 1 := by rw [hw1]; simp
    have Hr1 := Lib.hid (show w1.heap[w.heap.size]? = some (.cells #[.slice A0 items.length c0, .slice A1 wss.length c1, .int .i64 r] 25 (0, 0)) by rw [hw1]; exact heap_alloc_new _ _)
    have hx0 : w1.cell? ⟨w.heap.size, 0, none⟩ = some (.slice A0 items.length c0) := cell_of_row _ _ 0 _ _ _ Hr1.out
    have Hw1 := Lib.hid hw1
    have Hs1 := Lib.hid hs1
    have hne : ¬ q = items.length := by omega
    clear h0 hw h2 hs2 ih hw1 hqf hsr hq ht hf hs1
    go_enter Try.func30, Try.ntmps30
    go_upto_if 12 with fail
    rw [← Hw1.out]
    go_wp2_with (first
      | (at_builtin; (refine wpList_appN rfl _ _ _ rfl eInt8 (base := w1.heap.size) (k := 0) (m := taken.length) (xs := []) (ys := taken.map (Value.int .i64)) (v := .slice (some ⟨w1.heap.size, 0, none⟩) 0 0) rfl (World.ownsRow_lit (base := w1.heap.size) (e := 3) (size := 1) w1 #[] 0 (Nat.le_refl _) (by unfold maxLen; omega) rfl) rfl ((HRd.out.up Hb0.out).up (below_alloc _ _)) (by omega) (by simp) ?_; intro v2 w2 hown2 hg2 hat2; rw [Nat.zero_add] at hown2; obtain ⟨A3, c3, rfl⟩ := own_shape hown2; have HO2 := Lib.hid hown2; have HB2 := Lib.hid ((below_alloc w1 (.cells #[] 3)).grown hg2 (by simp) (fun k hk => (by simp [Value.ownBlock] at hk; omega))); have hs2 : w1.heap.size ≤ w2.heap.size := HB2.out.size; clear hown2 hg2 hat2))
      | (at_builtin; go_loud (refine wpList_push rfl _ _ _ rfl eInt (v := .slice A3 taken.length c3) rfl (HO2.out.alloc _) w2.heap.size (.int .i64 (q : Int)) rfl (by simp [go_sem]) rfl (by omega) (by simp; omega) ?_; intro v3 w3 hown3 hg3 hat3; obtain ⟨A4, c4, rfl⟩ := own_shape hown3; have HO3 := Lib.hid hown3; have HB3 := Lib.hid (HB2.out.trans (((below_alloc w2 (.cells #[.int .i64 (q : Int)] 3)).mono hs2).grown hg3 (by simp; omega) (fun k hk => (HO2.out.lt k hk).1))); have hr3 := (HB3.out.block w.heap.size (by rw [Hs1.out]; omega)).trans Hr1.out; have hy0 : w3.cell? ⟨w.heap.size, 0, none⟩ = some (.slice A0 items.length c0) := cell_of_row _ _ 0 _ _ _ hr3; have hy1 : w3.cell? ⟨w.heap.size, 1, none⟩ = some (.slice A1 wss.length c1) := cell_of_row _ _ 1 _ _ _ hr3; have hy2 : w3.cell? ⟨w.heap.size, 2, none⟩ = some (.int .i64 r) := cell_of_row _ _ 2 _ _ _ hr3; have Hr3 := Lib.hid hr3; clear hown3 hg3 hat3 hr3)))
    have Hbw3 := Lib.hid (Hb0.out.trans (HB3.out.mono Hb0.out.size))
    have hfl := Htf.out
    have H1 := Hih.out taken (.slice A2 taken.length c2) w3 (by omega) (by omega) (RItems.stable.up H0.out Hbw3.out) (RIntsss.stable.up HW.out Hbw3.out) (RInts.stable.up H2.out Hbw3.out) Hs2.out
    rw [show ((q + 1 : Nat) : Int) = (q : Int) + 1 by omega] at H1 Hih
    refine H1.mono ?_
    rintro e w4 ⟨rfl, b4⟩
    have HB4 := Lib.hid (Hbw3.out.trans (b4.mono Hbw3.out.size))
    have HB34 := Lib.hid b4
    cases hd : someR items wss r f taken with
    | true =>
      have Hd := Lib.hid hd
      clear H1 b4 hd
      go_wp2
      go_ret
      exact ⟨ret_bool (by rw [Hd.out]; rfl), HB4.out⟩
    | false =>
      have Hd := Lib.hid hd
      have hz3 : w.heap.size < w3.heap.size := by have := HB3.out.size; rw [Hs1.out] at this; omega
      have hr4 := (b4.block w.heap.size hz3).trans Hr3.out
      have hz0 : w4.cell? ⟨w.heap.size, 0, none⟩ = some (.slice A0 items.length c0) := cell_of_row _ _ 0 _ _ _ hr4
      have hz1 : w4.cell? ⟨w.heap.size, 1, none⟩ = some (.slice A1 wss.length c1) := cell_of_row _ _ 1 _ _ _ hr4
      have hz2 : w4.cell? ⟨w.heap.size, 2, none⟩ = some (.int .i64 r) := cell_of_row _ _ 2 _ _ _ hr4
      have HRw := Lib.hid (show RInts w3 (Lt w3.heap.size) (.slice A4 (taken.length + 1) c4) (taken ++ [(q : Int)]) from ints_of_own (l := taken ++ [(q : Int)]) (by have := HO3.out; simpa using this) fun g hg => (HO3.out.lt g hg).2)
      have hA4 : ∃ a m c, Value.slice A4 (taken.length + 1) c4 = .slice (some a) m c := by
        rcases HO3.out.2 with ⟨e, _⟩ | ⟨g, cap, cur, e, _⟩
        · cases e
        · exact ⟨_, _, _, e⟩
      have H2c := Lib.hid (Hih.out (taken ++ [(q : Int)]) (.slice A4 (taken.length + 1) c4) w4 (by omega) (by simp; omega) (RItems.stable.up H0.out HB4.out) (RIntsss.stable.up HW.out HB4.out) (RInts.stable.up HRw.out HB34.out) (.inr hA4))
      clear H1 b4 hd hr4 hA4 hy0 hy1 hy2 hfl
      go_wp2_with (go_at_call 30; with_reducible refine H2c.out.mono ?_; rintro e w5 ⟨rfl, b5⟩; go_loud (have HB5 := Lib.hid (HB4.out.trans (b5.mono HB4.out.size)); clear b5))
      go_ret
      exact ⟨ret_bool (by rw [Hd.out]; rfl), HB5.out⟩
/-- whether a deal can't be, of all choices there are -/
theorem blamed_any (s0 s1 : Value) (r : Int) (items : List ItemD) (wss : List (List (List Int))) (w : World) (h0 : RItems w (Lt w.heap.size) s0 items) (hw : RIntsss w (Lt w.heap.size) s1 wss) (hn : items.length ≤ 1000) :
    Calls Try.prog 17 #[.agg #[s0, s1, .int .i64 r]] w fun e w' => e = .returned (.bool (blamedB items wss r)) ∧ Below w.heap.size w w' := by
  obtain ⟨A0, c0, rfl, hm0, -⟩ := h0.open_
  obtain ⟨A1, c1, rfl, hm1, -⟩ := hw.open_
  have hb0 := below_alloc w (.cells #[.slice A0 items.length c0, .slice A1 wss.length c1, .int .i64 r] 25)
  have HS := Lib.hid (some18_any items wss r A0 A1 c0 c1 hn items.length [] (.slice none 0 0) _ (Nat.le_refl _) (by simp) (RItems.stable.up h0 hb0) (RIntsss.stable.up hw hb0) (RSl.nil_ _ _ _) (.inl rfl))
  rw [Nat.sub_self, show ((0 : Nat) : Int) = 0 from rfl] at HS
  have Hb0 := Lib.hid hb0
  clear h0 hw hb0
  go_enter Try.func17, Try.ntmps17
  go_wp2_with (go_at_call 30; with_reducible refine HS.out.mono ?_; rintro e w5 ⟨rfl, b5⟩; go_loud (have HB5 := Lib.hid (Hb0.out.trans (b5.mono Hb0.out.size)); clear b5))
  go_ret
  exact ⟨rfl, HB5.out⟩
end Go.Proofs.Ytcebafeaikipmaa

namespace Go.Proofs.Ytcebafeaikipmaa
open Go.RowKit

theorem leastL_step {B : List WantD → Bool} {l m : List WantD} {k : Nat} (hk : k < l.length) : leastL B (l.drop k) m = leastL B (l.drop (k + 1)) (if B (withoutW m l[k]) then withoutW m l[k] else m) := by
  rw [List.drop_eq_getElem_cons hk, leastL]
theorem wants_rdN {w : World} {S : Nat → Prop} {v : Value} {l : List WantD} (h : RWants w S v l) (h0 : v = .slice none 0 0 ∨ 0 < l.length ∨ ∃ a m c, v = .slice (some a) m c) : RdN w v 2 l.length (l.flatMap wantCells) :=
  rdN_of (by omega) wantCells_len wantCells_one h h0
set_option maxRecDepth 100000 in
set_option maxHeartbeats 4000000 in
theorem refLeast_any (s0 s1 sl : Value) (r : Int) (items : List ItemD) (wss : List (List (List Int))) (l : List WantD) (w : World) (h0 : RItems w (Lt w.heap.size) s0 items) (hw : RIntsss w (Lt w.heap.size) s1 wss)
    (hsl : RWants w (Lt w.heap.size) sl l) (hs0 : sl = .slice none 0 0 ∨ 0 < l.length ∨ ∃ a m c, sl = .slice (some a) m c) (hl : lightC items.length wss = true) (hll : l.length ≤ 1000000) :
    Calls Try.prog 18 #[.agg #[s0, s1, .int .i64 r], sl] w fun e w' => ∃ v, e = .returned v ∧ RWants w' (Lt w'.heap.size) v (leastL (fun m => blamedB items (onlyW m wss) r) l l) ∧ Below w.heap.size w w' := by
  obtain ⟨A0, c0, rfl, hm0, -⟩ := h0.open_
  obtain ⟨A1, c1, rfl, hm1, -⟩ := hw.open_
  obtain ⟨AL, cL, rfl, hmL, -⟩ := hsl.open_
  have H0 := Lib.hid h0
  have HW := Lib.hid hw
  have HSL := Lib.hid hsl
  have HL := Lib.hid hl
  have Hrd := Lib.hid (wants_rdN hsl hs0)
  have Hr7 := Lib.hid (lightC_W hl)
  obtain ⟨B, hB⟩ : ∃ B : List WantD → Bool, B = fun m => blamedB items (onlyW m wss) r := ⟨_, rfl⟩
  rw [← hB]
  have HB := Lib.hid (fun m => (show B m = blamedB items (onlyW m wss) r by rw [hB]))
  obtain ⟨w1, hw1⟩ : ∃ w1, w1 = w.alloc (.cells #[.slice A0 items.length c0, .slice A1 wss.length c1, .int .i64 r] 25) := ⟨_, rfl⟩
  have Hb0 := Lib.hid (show Below w.heap.size w w1 by rw [hw1]; exact below_alloc _ _)
  have hs1 : w1.heap.size = w.heap.size + 1 := by rw [hw1]; simp
  have Hs1 := Lib.hid hs1
  have Hr1 := Lib.hid (show w1.heap[w.heap.size]? = some (.cells #[.slice A0 items.length c0, .slice A1 wss.length c1, .int .i64 r] 25 (0, 0)) by rw [hw1]; exact heap_alloc_new _ _)
  have Hw1 := Lib.hid hw1
  clear h0 hw hsl hs0 hl hw1 hs1 hB
  go_enter Try.func18, Try.ntmps18
  go_upto_region 1 with fail
  rw [← Hw1.out]
  go_wp2_with (at_builtin; go_loud (refine wpList_appN rfl _ _ _ rfl eWant (base := w1.heap.size) (k := 0) (m := l.length) (xs := []) (ys := l.flatMap wantCells) (v := .slice (some ⟨w1.heap.size, 0, none⟩) 0 0) rfl (World.ownsRow_lit (base := w1.heap.size) (e := 44) (size := 2) w1 #[] 0 (Nat.le_refl _) (by unfold maxLen; omega) rfl) rfl ((Hrd.out.up Hb0.out).up (below_alloc _ _)) (by omega) (by simp) ?_; intro v2 w2 hown2 hg2 hat2; rw [Nat.zero_add] at hown2; obtain ⟨A2, c2, rfl⟩ := own_shape hown2; have HO2 := Lib.hid hown2; have HB2 := Lib.hid ((below_alloc w1 (.cells #[] 44)).grown hg2 (by simp) (fun k hk => (by simp [Value.ownBlock] at hk; omega))); have hs2 : w1.heap.size ≤ w2.heap.size := HB2.out.size; clear hown2 hg2 hat2))
  have Hcl := Lib.hid (show RWants w2 (fun b => w1.heap.size ≤ b ∧ b < w2.heap.size) (.slice A2 l.length c2) l from rarr_of_own wantCells_len (by have := HO2.out; simpa using this) fun g hg => HO2.out.lt g hg)
  go_loopw [11, 1] (fun sv lv wr => ∃ (k : Nat) (m : List WantD), k ≤ l.length ∧ sv = .int .i64 k ∧ Hid (RWants wr (Lt wr.heap.size) lv m) ∧ Hid (leastL B l l = leastL B (l.drop k) m) ∧ Hid (m.length ≤ l.length) ∧ Hid (Below w2.heap.size w2 wr)) (fun sv _ _ => l.length - (intOf sv).toNat)
  case atStart => exact ⟨0, l, Nat.zero_le _, rfl, Lib.hid (RWants.stable.up HSL.out (Hb0.out.trans (HB2.out.mono Hb0.out.size))), Lib.hid rfl, Lib.hid (Nat.le_refl _), Lib.hid (Below.refl _ _)⟩
  case round =>
    obtain ⟨wk, hwk⟩ : ∃ w0 : World, w0 = wr := ⟨_, rfl⟩
    rw [← hwk] at hrel ⊢
    clear hwk
    obtain ⟨k, m, hk, rfl, HM, HE, HML, HBk⟩ := hrel
    have Hbw := Lib.hid (show Below w1.heap.size w1 wk from HB2.out.trans (HBk.out.mono HB2.out.size))
    have Hbww := Lib.hid (show Below w.heap.size w wk from Hb0.out.trans (Hbw.out.mono Hb0.out.size))
    obtain ⟨AM, cM, hvM⟩ := HM.out.shape
    subst hvM
    rcases Nat.lt_or_ge k l.length with hlt | hge
    · obtain ⟨A', c', e', hm', hat⟩ := Hcl.out.open_
      simp only [Value.slice.injEq] at e'
      obtain ⟨rfl, -, rfl⟩ := e'
      obtain ⟨b, off, rfl, hS, hc⟩ := hat.at_ (VCells.stable _) (w' := wk) (ag_of_below HBk.out |>.sub fun b hb => hb.2) hlt
      have hc1 : wk.cell? ⟨b, off + k * 2, none⟩ = some (.int .i64 l[k].1) := hc 0 _ rfl
      have hc2 : wk.cell? ⟨b, off + k * 2 + 1, none⟩ = some (.int .i64 l[k].2) := hc 1 _ rfl
      have hbk : b < wk.heap.size := Nat.lt_of_lt_of_le hS.2 HBk.out.size
      have hq := (Hbw.out.block w.heap.size (by rw [Hs1.out]; omega)).trans Hr1.out
      have hwl : w.heap.size < wk.heap.size := by have := Hbw.out.size; rw [Hs1.out] at this; omega
      have Hst := Lib.hid (leastL_step (B := B) (m := m) hlt)
      obtain ⟨x, hx⟩ : ∃ x, x = l[k] := ⟨_, rfl⟩
      rw [← hx] at hc1 hc2 Hst
      obtain ⟨x1, x2⟩ := x
      clear hx hat hc hm' hS
      go_upto_region 4 with fail
      obtain ⟨X, hX⟩ : ∃ X, X = wk.heap.size := ⟨_, rfl⟩
      obtain ⟨wa, hwa⟩ : ∃ wa, wa = wk.alloc (.cells #[.int .i64 x1, .int .i64 x2] 44) := ⟨_, rfl⟩
      have Hba := Lib.hid (show Below wk.heap.size wk wa by rw [hwa]; exact below_alloc _ _)
      have hra : wa.heap[X]? = some (.cells #[.int .i64 x1, .int .i64 x2] 44 (0, 0)) := by rw [hwa, hX]; exact heap_alloc_new _ _
      rw [← hwa, ← hX]
      have hda := (Hba.out.block _ hwl).trans hq
      clear hwa hX hc1 hc2 hq
      have Hra := Lib.hid hra
      have Hda := Lib.hid hda
      have Hcells := Lib.hid (fun (W : World) (h : Below wa.heap.size wa W) => show (W.cell? ⟨w.heap.size, 0, none⟩ = some (.slice A0 items.length c0) ∧ W.cell? ⟨w.heap.size, 1, none⟩ = some (.slice A1 wss.length c1) ∧ W.cell? ⟨w.heap.size, 2, none⟩ = some (.int .i64 r)) ∧ W.cell? ⟨X, 0, none⟩ = some (.int .i64 x1) ∧ W.cell? ⟨X, 1, none⟩ = some (.int .i64 x2) by
        have h1 := (h.block _ (Array.getElem?_eq_some_iff.1 Hda.out).1).trans Hda.out
        have h2 := (h.block _ (Array.getElem?_eq_some_iff.1 Hra.out).1).trans Hra.out
        exact ⟨⟨cell_of_row _ _ _ _ _ (0, 0) h1, cell_of_row _ _ _ _ _ (0, 0) h1, cell_of_row _ _ _ _ _ (0, 0) h1⟩, cell_of_row _ _ _ _ _ (0, 0) h2, cell_of_row _ _ _ _ _ (0, 0) h2⟩)
      have Hbwa := Lib.hid (Hbww.out.trans (Hba.out.mono Hbww.out.size))
      have HWo := Lib.hid (fun (W : World) (h : Below wa.heap.size wa W) => refWithout_any (.slice AM m.length cM) m (x1, x2) W (RWants.stable.up HM.out (Hba.out.trans (h.mono Hba.out.size))) (by have := HML.out; omega))
      have Hr5 := Lib.hid (show ∀ ws ∈ wss, ws.length ≤ 1000 from fun ws hw => by
        obtain ⟨i, hi, rfl⟩ := List.getElem_of_mem hw
        have := (Hr7.out.2.2 i hi).1; omega)
      obtain ⟨⟨g0, g1, g2⟩, g3, g4⟩ := Hcells.out wa (Below.refl _ _)
      clear hra hda
      refine wp_region_held_drew (S := (fun w' => (w'.cell? ⟨w.heap.size, 0, none⟩ = some (.slice A0 items.length c0) ∧ w'.cell? ⟨w.heap.size, 1, none⟩ = some (.slice A1 wss.length c1) ∧ w'.cell? ⟨w.heap.size, 2, none⟩ = some (.int .i64 r)) ∧ w'.cell? ⟨X, 0, none⟩ = some (.int .i64 x1) ∧ w'.cell? ⟨X, 1, none⟩ = some (.int .i64 x2))) (by kernel_rfl) ⟨⟨g0, g1, g2⟩, g3, g4⟩ (fun hHeld => ?_)
      refine wpAnyH_take (i := 0) (v := ?_) rfl (by kernel_rfl) (by kernel_rfl) (by kernel_rfl) (fun _ _ _ h => h) (Or.inl ⟨by rfl, ?_⟩) (by assumption) ?_
      rotate_left
      · intro w1 hSw
        (try dsimp only at hSw)
        go_simp
        (try with_reducible rfl)
      (try dsimp only [Act.put, List.setIfInBounds_toArray, List.set_cons_zero, List.set_cons_succ])
      refine wpAnyH_take (i := 1) (v := ?_) rfl (by kernel_rfl) (by kernel_rfl) (by kernel_rfl) (fun _ _ _ h => h) (Or.inl ⟨by rfl, ?_⟩) (by assumption) ?_
      rotate_left
      · intro w1 hSw
        (try dsimp only at hSw)
        go_simp
        (try with_reducible rfl)
      (try dsimp only [Act.put, List.setIfInBounds_toArray, List.set_cons_zero, List.set_cons_succ])
      refine wpAnyH_take (i := 2) (v := ?_) rfl (by kernel_rfl) (by kernel_rfl) (by kernel_rfl) (fun _ _ _ h => h) (Or.inl ⟨by rfl, ?_⟩) (by assumption) ?_
      rotate_left
      · intro w1 hSw
        (try dsimp only at hSw)
        go_simp
        (try with_reducible rfl)
      (try dsimp only [Act.put, List.setIfInBounds_toArray, List.set_cons_zero, List.set_cons_succ])
      refine wpAnyH_ready (rs := [3]) (by kernel_rfl) (by simp) ?_
      refine AllReadyH.cons rfl (fun K hK => ?_) AllReadyH.nil
      go_simp
      refine (HWo.out _ (Below.refl _ _).drew).mono ?_
      rintro e w3 ⟨v3, rfl, ho3, b3⟩
      obtain ⟨A3, c3, rfl⟩ := ho3.shape
      have HB3 := Lib.hid (show Below wa.heap.size wa w3 from (Below.refl _ _).drew.trans b3)
      have HR3 := Lib.hid (show RWants w3 (Lt w3.heap.size) _ _ from RWants.stable.sub ho3.reads fun b hb => hb.2)
      clear ho3 b3
      dsimp only
      refine hK.out _ _ (Hcells.out _ HB3.out) (fun hHeld => ?_)
      clear hK K
      (try dsimp only [Act.put, List.setIfInBounds_toArray, List.set_cons_zero, List.set_cons_succ])
      refine wpAnyH_ready (rs := [4]) (by kernel_rfl) (by simp) ?_
      refine AllReadyH.cons rfl (fun K hK => ?_) AllReadyH.nil
      go_simp
      refine (refOnly_any (.slice A0 items.length c0) (.slice A1 wss.length c1) _ r items wss (withoutW m (x1, x2)) w3 (RItems.stable.up H0.out (Hbwa.out.trans (HB3.out.mono Hbwa.out.size))) (RIntsss.stable.up HW.out (Hbwa.out.trans (HB3.out.mono Hbwa.out.size))) HR3.out (by have := Hr7.out.2.1; omega) Hr5.out).mono ?_
      intro e w4 hq4
      unfold OnlyPost at hq4
      obtain ⟨vI, vW, rfl, hI4, hW4, b4⟩ := hq4
      have HI4 := Lib.hid hI4
      have HW4 := Lib.hid hW4
      have HB4 := Lib.hid (HB3.out.trans (b4.mono HB3.out.size))
      clear hI4 hW4 b4
      dsimp only
      refine hK.out _ _ (Hcells.out _ HB4.out) (fun hHeld => ?_)
      clear hK K
      (try dsimp only [Act.put, List.setIfInBounds_toArray, List.set_cons_zero, List.set_cons_succ])
      refine wpAnyH_ready (rs := [5]) (by kernel_rfl) (by simp) ?_
      refine AllReadyH.cons rfl (fun K hK => ?_) AllReadyH.nil
      go_simp
      refine (blamed_any vI vW r items (onlyW (withoutW m (x1, x2)) wss) w4 HI4.out HW4.out (by have := Hr7.out.1; omega)).mono ?_
      rintro e w5 ⟨rfl, b5⟩
      have HB5 := Lib.hid (HB4.out.trans (b5.mono HB4.out.size))
      rw [← HB.out]
      clear b5
      dsimp only
      refine hK.out _ _ (Hcells.out _ HB5.out) (fun hHeld => ?_)
      clear hK K
      (try dsimp only [Act.put, List.setIfInBounds_toArray, List.set_cons_zero, List.set_cons_succ])
      refine wpAnyH_done (by kernel_rfl) ?_ _
      obtain ⟨⟨k0, k1, k2⟩, k3, k4⟩ := Hcells.out w5 HB5.out
      clear g0 g1 g2 g3 g4
      cases hbl : B (withoutW m (x1, x2)) with
      | true =>
        rw [hbl] at Hst
        clear hbl
        go_wp2_with (go_at_call 19; with_reducible refine (HWo.out w5 HB5.out).mono ?_; rintro e w6 ⟨v6, rfl, ho6, b6⟩; go_loud (have HR6 := Lib.hid (show RWants w6 (Lt w6.heap.size) _ _ from RWants.stable.sub ho6.reads fun b hb => hb.2); have HB6 := Lib.hid (HBk.out.trans ((Hba.out.trans ((HB5.out.trans (b6.mono HB5.out.size)).mono Hba.out.size)).mono HBk.out.size)); clear ho6 b6))
        go_roundw
        case rel => exact ⟨k + 1, _, by omega, by go_num, HR6, Lib.hid (HE.out.trans Hst.out), Lib.hid (Nat.le_trans (List.length_filter_le _ _) HML.out), HB6⟩
        case measure => simp [intOf]; omega
      | false =>
        rw [hbl] at Hst
        clear hbl
        go_wp2
        have HB6 := Lib.hid (Hba.out.trans (HB5.out.mono Hba.out.size))
        go_roundw
        case rel => exact ⟨k + 1, m, by omega, by go_num, Lib.hid (RWants.stable.up HM.out HB6.out), Lib.hid (HE.out.trans Hst.out), HML, Lib.hid (HBk.out.trans (HB6.out.mono HBk.out.size))⟩
        case measure => simp [intOf]; omega
    · obtain rfl : k = l.length := by omega
      have Hfin := Lib.hid (show leastL B l l = m by rw [HE.out, List.drop_length]; rfl)
      go_wp2
      go_ret
      exact ⟨_, rfl, by rw [Hfin.out]; exact HM.out, Hbww.out⟩
end Go.Proofs.Ytcebafeaikipmaa
