/- Rows of the call's own whose elements are several cells each: pushed to, read. / core.All, has, without (program and reference), the law's same: what they compute. / core.has, without (program and reference): what they compute. / .. -/
import Derived.ChangeKeysEq
import Derived.Lib.SliceRun
import Derived.Deep.DeepCutAuto
import Derived.Test.YtcebafeaikipmaaCa4
import Derived.Test.YtcebafeaikipmaaZa
namespace Go.Proofs.Ytcebafeaikipmaa
open Go.RowKit

def ElemN (P : Program) (t e : TypeId) (size bytes : Nat) : Prop := P.underlying t = some (.slice e) ∧ bytes ≤ 128 ∧ 0 < size ∧ ∃ i z, P.info? e = some i ∧ i.zero = some z ∧ i.size = size ∧ i.bytes = bytes ∧ z.cells.size = size
def elemNB (o : Option TypeInfo) (size bytes : Nat) : Bool := match o with | some i => (match i.zero with | some z => i.size == size && i.bytes == bytes && z.cells.size == size | none => false) | none => false
theorem elemN_mk {P : Program} {t e : TypeId} {size bytes : Nat} (h1 : P.underlying t = some (.slice e)) (h2 : elemNB (P.info? e) size bytes = true) (h3 : bytes ≤ 128) (h5 : 0 < size) : ElemN P t e size bytes := by
  unfold elemNB at h2
  split at h2
  · next i hi =>
    split at h2
    · next z hz =>
      simp only [Bool.and_eq_true, beq_iff_eq] at h2
      exact ⟨h1, h3, h5, i, z, hi, hz, h2.1.1, h2.1.2, h2.2⟩
    · exact absurd h2 (by simp)
  · exact absurd h2 (by simp)
/-- append of one value of several cells, which lies alone in a block that was just made. -/
theorem wpList_pushN {P : Program} {w : World} {ops : Array Oper} {rest : List Oper} {o : Oper} {a : Act} {Q : Exit → Act → World → Prop} (hgd : o.guard = none) (s x : Operand) (t : TypeId)
    (ho : o.op = .call { callee := .builtin .append, args := #[s, x], argTypes := #[t, t] }) {base : Nat} {e : TypeId} {size bytes : Nat} (he : ElemN P t e size bytes)
    {v : Value} {n : Nat} {xs : List Value} (hs : a.eval s = v) (hown : w.ownsRow base e size v n xs) (g : Nat) (news : List Value) (hx : a.eval x = .slice (some ⟨g, 0, none⟩) 1 1)
    (hl : news.length = size) (hc : ∀ j u, news[j]? = some u → w.cell? ⟨g, j, none⟩ = some u) (h1 : ∀ u ∈ news, u.oneCell' = true) (hn : n < 1000000000000) (hbase : base ≤ w.heap.size)
    (h : ∀ v' w', w'.ownsRow base e size v' (n + 1) (xs ++ news) → w.grownBy w' v.ownBlock → (v'.ownBlock = v.ownBlock ∨ v'.ownBlock = some w.heap.size) → wpList P ops Q rest (a.put o.dst v') w') :
    wpList P ops Q (o :: rest) a w := by
  obtain ⟨ht, h64, hs0, i, z, hi, hz, hsz, hby, hzs⟩ := he
  refine wpList_append_own_at w hgd s x t ho base e i z size bytes ht hi hz hsz hby hzs hs0 v n xs hs hown ⟨g, 0, none⟩ 1 1 news hx (by rw [hl]; omega) ?_ h1 ?_ ?_ hbase fun v' w' h2 h3 _ h5 => h v' w' h2 h3 h5
  · intro j u hu
    rw [add_none, Nat.zero_add]
    exact hc j u hu
  · unfold maxLen; omega
  · have : (n + 1) * bytes ≤ 1000000000000 * 128 := Nat.mul_le_mul (by omega) h64
    omega
theorem flatMap_cells {α : Type} {n : Nat} {cells : α → List Value} (hc : ∀ x, (cells x).length = n) : ∀ (l : List α) (k j : Nat) (hk : k < l.length), j < n → (l.flatMap cells)[k * n + j]? = (cells l[k])[j]?
  | x :: l, 0, j, _, hj => by
    rw [List.flatMap_cons, Nat.zero_mul, Nat.zero_add, List.getElem?_append_left (by rw [hc]; exact hj)]; rfl
  | x :: l, k + 1, j, hk, hj => by
    rw [List.flatMap_cons, List.getElem?_append_right (by rw [hc, Nat.succ_mul]; omega), hc, show (k + 1) * n + j - n = k * n + j by rw [Nat.succ_mul]; omega, flatMap_cells hc l k j (by simpa using hk) hj]
    rfl
/-- A row of the call's own as a reading. -/
theorem rarr_of_own {α : Type} {n : Nat} {cells : α → List Value} (hc : ∀ x, (cells x).length = n) {w : World} {base : Nat} {e : TypeId} {v : Value} {l : List α} {S : Nat → Prop} (h : w.ownsRow base e n v l.length (l.flatMap cells))
    (hS : ∀ g, v.ownBlock = some g → S g) : RArr n (VCells cells) w S v l := by
  rcases h.2 with ⟨rfl, h0⟩ | ⟨g, cap, cur, rfl, hg, hh, hnc, hm, hs, ht⟩
  · have : l = [] := List.eq_nil_of_length_eq_zero h0
    subst this
    exact ⟨none, 0, rfl, Nat.le_refl _, Nat.zero_le _, fun h => absurd h (by simp)⟩
  · refine ⟨some ⟨g, 0, none⟩, cap, rfl, hnc, hm, fun _ => ⟨g, 0, rfl, hS g rfl, fun k hk j u hu => ?_⟩⟩
    have hj : j < n := by rw [← hc l[k]]; exact (List.getElem?_eq_some_iff.1 hu).1
    rw [← flatMap_cells hc l k j hk hj, ← ht, List.getElem?_take] at hu
    split at hu
    · rw [Nat.zero_add, cell_of_row _ _ _ _ _ _ hh]
      simpa using hu
    · cases hu
theorem RArr.up {α : Type} {n : Nat} {P : RdV α} (hs : StableV P) {w w' : World} {v : Value} {l : List α} (h : RArr n P w (Lt w.heap.size) v l) (hb : Below w.heap.size w w') : RArr n P w' (Lt w'.heap.size) v l := (RArr.stable hs).up h hb
end Go.Proofs.Ytcebafeaikipmaa

namespace Go.Proofs.Ytcebafeaikipmaa
open Go.RowKit

theorem eWant : ElemN Try.prog 26 44 2 16 := elemN_mk Try.underlying26 (by kernel_rfl) (by omega) (by omega)
theorem wantCells_len (x : WantD) : (wantCells x).length = 2 := rfl
theorem wantCells_one (x : WantD) : ∀ u ∈ wantCells x, u.oneCell' = true := by
  intro u hu
  simp only [wantCells, List.mem_cons, List.not_mem_nil, or_false] at hu
  rcases hu with rfl | rfl <;> rfl
def OwnW (w : World) (B : Nat) (v : Value) (l : List WantD) : Prop := w.ownsRow B 44 2 v l.length (l.flatMap wantCells)
theorem OwnW.nil (w : World) (B : Nat) : OwnW w B (.slice none 0 0) [] := World.ownsRow_nil _ _ _ _
theorem OwnW.snoc {w : World} {B : Nat} {v : Value} {l : List WantD} {x : WantD} (h : w.ownsRow B 44 2 v (l.length + 1) (l.flatMap wantCells ++ wantCells x)) : OwnW w B v (l ++ [x]) := by
  unfold OwnW
  rw [List.length_append, List.flatMap_append]
  simpa using h
theorem OwnW.reads {w : World} {B : Nat} {v : Value} {l : List WantD} (h : OwnW w B v l) : RWants w (fun b => B ≤ b ∧ b < w.heap.size) v l := rarr_of_own wantCells_len h fun g hg => World.ownsRow.lt h g hg
theorem OwnW.base {w : World} {B B' : Nat} {v : Value} {l : List WantD} (h : OwnW w B v l) (hb : B' ≤ B) : OwnW w B' v l := by
  refine ⟨h.1, ?_⟩
  rcases h.2 with h2 | ⟨g, cap, cur, e1, e2, e3⟩
  · exact .inl h2
  · exact .inr ⟨g, cap, cur, e1, by omega, e3⟩
theorem OwnW.shape {w : World} {B : Nat} {v : Value} {l : List WantD} (h : OwnW w B v l) : ∃ A c, v = .slice A l.length c := own_shape h
theorem RWants.shape {w : World} {S : Nat → Prop} {v : Value} {l : List WantD} (h : RWants w S v l) : ∃ A c, v = .slice A l.length c := by obtain ⟨A, c, h, _⟩ := h; exact ⟨A, c, h⟩
theorem RWants.at2 {w w' : World} {k B : Nat} {A : Option Addr} {l : List WantD} (h : RAtV 2 VWant w (Lt B) A l) (hb : Below B w w') (hk : k < l.length) :
    ∃ b off, A = some ⟨b, off, none⟩ ∧ b < B ∧ w'.cell? ⟨b, off + k * 2, none⟩ = some (.int .i64 l[k].1) ∧ w'.cell? ⟨b, off + k * 2 + 1, none⟩ = some (.int .i64 l[k].2) := by
  obtain ⟨b, off, rfl, hb', hc⟩ := h.at_ (VCells.stable _) (ag_of_below hb) hk
  exact ⟨b, off, rfl, hb', hc 0 _ rfl, hc 1 _ rfl⟩
theorem allTo_len {wss : List (List (List Int))} (h : ∀ ws ∈ wss, ws.length ≤ 1000) : ∀ m, m ≤ wss.length → (allTo wss m).length ≤ m * 1000
  | 0, _ => by simp [allTo]
  | m + 1, hm => by
    have h1 := allTo_len h m (by omega)
    have h2 := h wss[m] (List.getElem_mem (by omega))
    rw [allTo, List.length_append, rowW_len, getD_at (by omega)]
    omega
set_option maxRecDepth 100000 in
set_option maxHeartbeats 2000000 in
theorem All_any (A0 : Option Addr) (n0 c0 : Nat) (s1 : Value) (r : Int) (wss : List (List (List Int))) (w : World) (hw : RIntsss w (Lt w.heap.size) s1 wss) (hl : ∀ ws ∈ wss, ws.length ≤ 1000) (hl2 : wss.length ≤ 1000) :
    Calls Try.prog 13 #[.agg #[.slice A0 n0 c0, s1, .int .i64 r]] w fun e w' => ∃ v, e = .returned v ∧ OwnW w' w.heap.size v (allW wss) ∧ Below w.heap.size w w' := by
  obtain ⟨A1, c1, rfl, hm, hat⟩ := hw.open_
  have Hat := Lib.hid hat
  have HL := Lib.hid (allTo_len hl)
  clear hat hw hl
  go_enter Try.func13, Try.ntmps13
  go_wp2
  have hb0 := below_alloc w (.cells #[.slice A0 n0 c0, .slice A1 wss.length c1, .int .i64 r] 25)
  have Hb0 := Lib.hid hb0
  have hs0 : (w.alloc (.cells #[.slice A0 n0 c0, .slice A1 wss.length c1, .int .i64 r] 25)).heap.size = w.heap.size + 1 := by simp
  generalize w.alloc (.cells #[.slice A0 n0 c0, .slice A1 wss.length c1, .int .i64 r] 25) = w1 at *
  clear hb0
  go_loopw [9, 2] (fun sv vv wr => ∃ i, i ≤ wss.length ∧ sv = .int .i64 i ∧ Hid (OwnW wr w.heap.size vv (allTo wss i)) ∧ Hid (Below w.heap.size w wr)) (fun sv _ _ => wss.length - (intOf sv).toNat)
  case atStart => exact ⟨0, Nat.zero_le _, rfl, Lib.hid (OwnW.nil _ _), Hb0⟩
  case round =>
    obtain ⟨wi, hwi⟩ : ∃ w0 : World, w0 = wr := ⟨_, rfl⟩
    rw [← hwi] at hrel ⊢
    clear hwi
    obtain ⟨i, hi, rfl, HO, HB⟩ := hrel
    rcases Nat.lt_or_ge i wss.length with hlt | hge
    · obtain ⟨b, off, u, rfl, hb, hc, hu⟩ := Hat.out.at_ RIntss.stable (ag_of_below HB.out) hlt
      obtain ⟨A2, c2, rfl, hm2, -⟩ := hu.open_
      have Hgd := Lib.hid (getD_at hlt)
      obtain ⟨q, hq⟩ : ∃ q, q = wss[i].length := ⟨_, rfl⟩
      have Hq := Lib.hid hq
      have hL2 := HL.out (i + 1) (by omega)
      rw [allTo, List.length_append, rowW_len, getD_at hlt, ← hq] at hL2
      have hqs : q ≤ 1000000 := by omega
      rw [← hq] at hc
      clear hu hq
      go_wp2
      go_loopw [16, 2] (fun sv vv wr => ∃ k, k ≤ q ∧ sv = .int .i64 k ∧ Hid (OwnW wr w.heap.size vv (allTo wss i ++ rowW i k)) ∧ Hid (Below w.heap.size w wr)) (fun sv _ _ => q - (intOf sv).toNat)
      case atStart => exact ⟨0, Nat.zero_le _, rfl, Lib.hid (by simpa [rowW] using HO.out), HB⟩
      case round =>
        obtain ⟨wk, hwk⟩ : ∃ w0 : World, w0 = wr := ⟨_, rfl⟩
        rw [← hwk] at hrel ⊢
        clear hwk
        obtain ⟨k, hk, rfl, HOk, HBk⟩ := hrel
        rcases Nat.lt_or_ge k q with hlt2 | hge2
        · obtain ⟨AV, kV, rfl⟩ := HOk.out.shape
          have hlen : (allTo wss i ++ rowW i k).length ≤ 1000000 := by rw [List.length_append, rowW_len]; omega
          have hbs := HBk.out.size
          obtain ⟨L, hL⟩ : ∃ L, L = (allTo wss i ++ rowW i k).length := ⟨_, rfl⟩
          have HL0 := Lib.hid hL
          have HO2 := Lib.hid (show wk.ownsRow w.heap.size 44 2 (.slice AV L kV) L ((allTo wss i ++ rowW i k).flatMap wantCells) by rw [hL]; exact HOk.out)
          rw [← hL] at hlen ⊢
          clear hL
          go_wp2_with (at_builtin; go_loud (refine wpList_pushN rfl _ _ _ rfl eWant (v := .slice AV L kV) rfl (HO2.out.alloc _) wk.heap.size (wantCells ((i : Int), (k : Int))) rfl rfl (by intro j u hu; rw [cell_of_row _ _ j _ _ _ (heap_new rfl), ← Array.getElem?_toList]; exact hu) (wantCells_one _) (by omega) (by simp; omega) ?_; intro v1 w3 hown1 hg1 hat1; have HO3 := Lib.hid hown1; have HB3 := Lib.hid ((HBk.out.alloc hbs _).grown hg1 (by simp; omega) (fun g hg => (World.ownsRow.lt HO2.out g hg).1)); clear hown1 hg1 hat1))
          go_roundw
          case rel => exact ⟨k + 1, by omega, by go_num, Lib.hid (by rw [rowW, ← List.append_assoc]; exact OwnW.snoc (by rw [← HL0.out]; exact HO3.out)), HB3⟩
          case measure => simp [intOf]; omega
        · obtain rfl : k = q := by omega
          go_wp2
          go_roundw
          case rel => exact ⟨i + 1, by omega, by go_num, Lib.hid (by rw [allTo, Hgd.out, ← Hq.out]; exact HOk.out), HBk⟩
          case measure => simp [intOf]; omega
    · obtain rfl : i = wss.length := by omega
      go_wp2
      go_ret
      exact ⟨_, rfl, HO.out, HB.out⟩
set_option maxRecDepth 100000 in
set_option maxHeartbeats 2000000 in
theorem refAll_any (A0 : Option Addr) (n0 c0 : Nat) (s1 : Value) (r : Int) (wss : List (List (List Int))) (w : World) (hw : RIntsss w (Lt w.heap.size) s1 wss) (hl : ∀ ws ∈ wss, ws.length ≤ 1000) (hl2 : wss.length ≤ 1000) :
    Calls Try.prog 14 #[.agg #[.slice A0 n0 c0, s1, .int .i64 r]] w fun e w' => ∃ v, e = .returned v ∧ OwnW w' w.heap.size v (allW wss) ∧ Below w.heap.size w w' := by
  obtain ⟨A1, c1, rfl, hm, hat⟩ := hw.open_
  have Hat := Lib.hid hat
  have HL := Lib.hid (allTo_len hl)
  clear hat hw hl
  go_enter Try.func14, Try.ntmps14
  go_wp2
  have hb0 := below_alloc w (.cells #[.slice A0 n0 c0, .slice A1 wss.length c1, .int .i64 r] 25)
  have Hb0 := Lib.hid hb0
  have hs0 : (w.alloc (.cells #[.slice A0 n0 c0, .slice A1 wss.length c1, .int .i64 r] 25)).heap.size = w.heap.size + 1 := by simp
  have hx1 : (w.alloc (.cells #[.slice A0 n0 c0, .slice A1 wss.length c1, .int .i64 r] 25)).cell? ⟨w.heap.size, 1, none⟩ = some (.slice A1 wss.length c1) := by simp [go_sem]
  have Hx1 := Lib.hid hx1
  generalize w.alloc (.cells #[.slice A0 n0 c0, .slice A1 wss.length c1, .int .i64 r] 25) = w1 at *
  clear hb0 hx1
  go_loopw [9, 3] (fun sv vv wr => ∃ i, i ≤ wss.length ∧ sv = .int .i64 i ∧ Hid (OwnW wr (w.heap.size + 1) vv (allTo wss i)) ∧ Hid (Below (w.heap.size + 1) w1 wr)) (fun sv _ _ => wss.length - (intOf sv).toNat)
  case atStart => exact ⟨0, Nat.zero_le _, rfl, Lib.hid (OwnW.nil _ _), Lib.hid (Below.refl _ _)⟩
  case round =>
    obtain ⟨wi, hwi⟩ : ∃ w0 : World, w0 = wr := ⟨_, rfl⟩
    rw [← hwi] at hrel ⊢
    clear hwi
    obtain ⟨i, hi, rfl, HO, HB⟩ := hrel
    rcases Nat.lt_or_ge i wss.length with hlt | hge
    · obtain ⟨b, off, u, rfl, hb, hc, hu⟩ := Hat.out.at_ RIntss.stable (ag_of_below (Hb0.out.trans (HB.out.mono (Nat.le_succ _)))) hlt
      have hx2 : wi.cell? ⟨w.heap.size, 1, none⟩ = some (.slice (some ⟨b, off, none⟩) wss.length c1) := (HB.out.cell (p := ⟨w.heap.size, 1, none⟩) (Nat.lt_succ_self _)).trans Hx1.out
      obtain ⟨A2, c2, rfl, hm2, -⟩ := hu.open_
      have Hgd := Lib.hid (getD_at hlt)
      obtain ⟨q, hq⟩ : ∃ q, q = wss[i].length := ⟨_, rfl⟩
      have Hq := Lib.hid hq
      have hL2 := HL.out (i + 1) (by omega)
      rw [allTo, List.length_append, rowW_len, getD_at hlt, ← hq] at hL2
      have hqs : q ≤ 1000000 := by omega
      rw [← hq] at hc
      clear hu hq
      go_wp2
      go_loopw [18, 3] (fun sv vv wr => ∃ k, k ≤ q ∧ sv = .int .i64 k ∧ Hid (OwnW wr (w.heap.size + 1) vv (allTo wss i ++ rowW i k)) ∧ Hid (Below (w.heap.size + 1) w1 wr)) (fun sv _ _ => q - (intOf sv).toNat)
      case atStart => exact ⟨0, Nat.zero_le _, rfl, Lib.hid (by simpa [rowW] using HO.out), HB⟩
      case round =>
        obtain ⟨wk, hwk⟩ : ∃ w0 : World, w0 = wr := ⟨_, rfl⟩
        rw [← hwk] at hrel ⊢
        clear hwk
        obtain ⟨k, hk, rfl, HOk, HBk⟩ := hrel
        rcases Nat.lt_or_ge k q with hlt2 | hge2
        · obtain ⟨AV, kV, rfl⟩ := HOk.out.shape
          have hlen : (allTo wss i ++ rowW i k).length ≤ 1000000 := by rw [List.length_append, rowW_len]; omega
          have hbs : w.heap.size + 1 ≤ wk.heap.size := by have := HBk.out.size; omega
          obtain ⟨L, hL⟩ : ∃ L, L = (allTo wss i ++ rowW i k).length := ⟨_, rfl⟩
          have HL0 := Lib.hid hL
          have HO2 := Lib.hid (show wk.ownsRow (w.heap.size + 1) 44 2 (.slice AV L kV) L ((allTo wss i ++ rowW i k).flatMap wantCells) by rw [hL]; exact HOk.out)
          rw [← hL] at hlen ⊢
          clear hL
          go_wp2_with (at_builtin; go_loud (refine wpList_pushN rfl _ _ _ rfl eWant (v := .slice AV L kV) rfl (HO2.out.alloc _) wk.heap.size (wantCells ((i : Int), (k : Int))) rfl rfl (by intro j u hu; rw [cell_of_row _ _ j _ _ _ (heap_new rfl), ← Array.getElem?_toList]; exact hu) (wantCells_one _) (by omega) (by simp; omega) ?_; intro v1 w3 hown1 hg1 hat1; have HO3 := Lib.hid hown1; have HB3 := Lib.hid ((HBk.out.alloc hbs _).grown hg1 (by simp; omega) (fun g hg => (World.ownsRow.lt HO2.out g hg).1)); clear hown1 hg1 hat1))
          go_roundw
          case rel => exact ⟨k + 1, by omega, by go_num, Lib.hid (by rw [rowW, ← List.append_assoc]; exact OwnW.snoc (by rw [← HL0.out]; exact HO3.out)), HB3⟩
          case measure => simp [intOf]; omega
        · obtain rfl : k = q := by omega
          go_wp2
          go_roundw
          case rel => exact ⟨i + 1, by omega, by go_num, Lib.hid (by rw [allTo, Hgd.out, ← Hq.out]; exact HOk.out), HBk⟩
          case measure => simp [intOf]; omega
    · obtain rfl : i = wss.length := by omega
      go_wp2
      go_ret
      exact ⟨_, rfl, HO.out.base (Nat.le_succ _), Hb0.out.trans (HB.out.mono (Nat.le_succ _))⟩
end Go.Proofs.Ytcebafeaikipmaa

namespace Go.Proofs.Ytcebafeaikipmaa
open Go.RowKit

theorem eqWant (w : World) (a b c d : Int) : (Op.equalIn 10000 44 (.agg #[.int .i64 a, .int .i64 b]) (.agg #[.int .i64 c, .int .i64 d])).run Try.prog w = .ok (((a, b) : WantD) == (c, d)) w := by
  obtain ⟨i, hi⟩ := info_of_underlying Try.underlying3
  have hc : Try.prog.cellsOf 3 = 1 := by kernel_rfl
  have hp : Try.prog.plainKey 3 = true := by kernel_rfl
  rw [show (10000 : Nat) = 9998 + 1 + 1 from rfl, run_equalIn_array w (9998 + 1) _ _ Try.underlying44 hi, hc, show List.range 2 = [0, 1] from rfl]
  simp only [Op.eqItems, Sem.run_bind, Nat.zero_mul, Nat.one_mul]
  rw [run_part_plain w hp (v := .int .i64 a) rfl, Result.andThen_ok, run_part_plain w hp (v := .int .i64 c) rfl, Result.andThen_ok, run_equalIn_int w _ _ _ _ _ _ Try.underlying3, Result.andThen_ok]
  have he : (((a, b) : WantD) == (c, d)) = (a == c && b == d) := rfl
  rw [he]
  cases h : (a == c) with
  | false => simp
  | true =>
    simp only [Bool.not_true, Bool.false_eq_true, if_false, Bool.true_and]
    simp only [Op.eqItems, Sem.run_bind]
    rw [run_part_plain w hp (v := .int .i64 b) rfl, Result.andThen_ok, run_part_plain w hp (v := .int .i64 d) rfl, Result.andThen_ok, run_equalIn_int w _ _ _ _ _ _ Try.underlying3, Result.andThen_ok]
    cases h2 : (b == d) <;> simp
set_option maxRecDepth 100000 in
set_option maxHeartbeats 2000000 in
theorem has27_any (s : Value) (l : List WantD) (x : WantD) (w : World) (hs : RWants w (Lt w.heap.size) s l) :
    Calls Try.prog 23 #[s, .agg #[.int .i64 x.1, .int .i64 x.2]] w fun e w' => e = .returned (.bool (hasW l x)) ∧ Below w.heap.size w w' := by
  obtain ⟨A, c, rfl, hm, hat⟩ := hs.open_
  have Hat := Lib.hid hat
  obtain ⟨x1, x2⟩ := x
  clear hat hs
  go_enter Try.func23, Try.ntmps23
  go_wp2
  have hb0 := below_alloc w (.cells #[.int .i64 x1, .int .i64 x2] 44)
  have Hb0 := Lib.hid hb0
  have hs0 : (w.alloc (.cells #[.int .i64 x1, .int .i64 x2] 44)).heap.size = w.heap.size + 1 := by simp
  have hx1 : (w.alloc (.cells #[.int .i64 x1, .int .i64 x2] 44)).cell? ⟨w.heap.size, 0, none⟩ = some (.int .i64 x1) := by simp [go_sem]
  have hx2 : (w.alloc (.cells #[.int .i64 x1, .int .i64 x2] 44)).cell? ⟨w.heap.size, 1, none⟩ = some (.int .i64 x2) := by simp [go_sem]
  have Hx1 := Lib.hid hx1
  have Hx2 := Lib.hid hx2
  generalize w.alloc (.cells #[.int .i64 x1, .int .i64 x2] 44) = w1 at *
  clear hb0 hx1 hx2
  go_loopw [9] (fun sv wr => ∃ i, i ≤ l.length ∧ sv = .int .i64 i ∧ Hid ((l.take i).any (· == (x1, x2)) = false) ∧ Hid (Below (w.heap.size + 1) w1 wr)) (fun sv _ => l.length - (intOf sv).toNat)
  case atStart => exact ⟨0, Nat.zero_le _, rfl, Lib.hid rfl, Lib.hid (Below.refl _ _)⟩
  case round =>
    obtain ⟨wi, hwi⟩ : ∃ w0 : World, w0 = wr := ⟨_, rfl⟩
    rw [← hwi] at hrel ⊢
    clear hwi
    obtain ⟨i, hi, rfl, HI, HB⟩ := hrel
    have Hbw := Lib.hid (Hb0.out.trans (HB.out.mono (Nat.le_succ _)))
    rcases Nat.lt_or_ge i l.length with hlt | hge
    · obtain ⟨b, off, rfl, hb, hc1, hc2⟩ := RWants.at2 Hat.out Hbw.out hlt
      have hk1 : wi.cell? ⟨w.heap.size, 0, none⟩ = some (.int .i64 x1) := (HB.out.cell (p := ⟨w.heap.size, 0, none⟩) (Nat.lt_succ_self _)).trans Hx1.out
      have hk2 : wi.cell? ⟨w.heap.size, 1, none⟩ = some (.int .i64 x2) := (HB.out.cell (p := ⟨w.heap.size, 1, none⟩) (Nat.lt_succ_self _)).trans Hx2.out
      have hbl : b < wi.heap.size := Nat.lt_of_lt_of_le hb Hbw.out.size
      have hwl : w.heap.size < wi.heap.size := by have := HB.out.size; omega
      have Hsu := Lib.hid (any_take_succ (· == ((x1, x2) : WantD)) l i hlt)
      have Hm := Lib.hid (List.getElem_mem hlt)
      obtain ⟨y, hy⟩ : ∃ y, y = l[i] := ⟨_, rfl⟩
      rw [← hy] at hc1 hc2 Hsu Hm
      clear hy
      obtain ⟨y1, y2⟩ := y
      have hq := fun w => eqWant w y1 y2 x1 x2
      have hb1 : RowKit.Below (w.heap.size + 1) w1 (wi.alloc (.cells #[.int .i64 y1, .int .i64 y2] 44)) := HB.out.alloc (by omega) _
      have HB1 := Lib.hid hb1
      clear hb1
      cases hd : (((y1, y2) : WantD) == (x1, x2)) with
      | true =>
        simp only [hd] at hq
        have Hr := Lib.hid (show hasW l (x1, x2) = true by unfold hasW; rw [List.any_eq_true]; exact ⟨_, Hm.out, hd⟩)
        clear hd
        go_wp2
        go_ret
        exact ⟨ret_bool Hr.out.symm, Hb0.out.trans (HB1.out.mono (Nat.le_succ _))⟩
      | false =>
        simp only [hd] at hq
        have Hr := Lib.hid (show (l.take (i + 1)).any (· == ((x1, x2) : WantD)) = false by rw [Hsu.out, HI.out, hd]; rfl)
        clear hd
        go_wp2
        go_roundw
        case rel => exact ⟨i + 1, by omega, by go_num, Hr, HB1⟩
        case measure => simp [intOf]; omega
    · obtain rfl : i = l.length := by omega
      have Hr := Lib.hid (show hasW l (x1, x2) = false by unfold hasW; have := HI.out; rwa [List.take_length] at this)
      go_wp2
      go_ret
      exact ⟨ret_bool Hr.out.symm, Hbw.out⟩
theorem without_succ {l : List WantD} {x : WantD} {i : Nat} (h : i < l.length) : withoutW (l.take (i + 1)) x = withoutW (l.take i) x ++ if l[i] != x then [l[i]] else [] := by
  unfold withoutW
  rw [List.take_succ_eq_append_getElem h, List.filter_append]
  congr 1
  simp only [List.filter_cons, List.filter_nil]
set_option maxRecDepth 100000 in
set_option maxHeartbeats 2000000 in
theorem without_any (s : Value) (l : List WantD) (x : WantD) (w : World) (hs : RWants w (Lt w.heap.size) s l) (hl : l.length ≤ 1000000) :
    Calls Try.prog 33 #[s, .agg #[.int .i64 x.1, .int .i64 x.2]] w fun e w' => ∃ v, e = .returned v ∧ OwnW w' w.heap.size v (withoutW l x) ∧ Below w.heap.size w w' := by
  obtain ⟨A, c, rfl, hm, hat⟩ := hs.open_
  have Hat := Lib.hid hat
  obtain ⟨x1, x2⟩ := x
  clear hat hs
  go_enter Try.func33, Try.ntmps33
  go_wp2
  have hb0 := below_alloc w (.cells #[.int .i64 x1, .int .i64 x2] 44)
  have Hb0 := Lib.hid hb0
  have hs0 : (w.alloc (.cells #[.int .i64 x1, .int .i64 x2] 44)).heap.size = w.heap.size + 1 := by simp
  have hx1 : (w.alloc (.cells #[.int .i64 x1, .int .i64 x2] 44)).cell? ⟨w.heap.size, 0, none⟩ = some (.int .i64 x1) := by simp [go_sem]
  have hx2 : (w.alloc (.cells #[.int .i64 x1, .int .i64 x2] 44)).cell? ⟨w.heap.size, 1, none⟩ = some (.int .i64 x2) := by simp [go_sem]
  have Hx1 := Lib.hid hx1
  have Hx2 := Lib.hid hx2
  generalize w.alloc (.cells #[.int .i64 x1, .int .i64 x2] 44) = w1 at *
  clear hb0 hx1 hx2
  go_loopw [9, 4] (fun sv vv wr => ∃ i, i ≤ l.length ∧ sv = .int .i64 i ∧ Hid (OwnW wr (w.heap.size + 1) vv (withoutW (l.take i) (x1, x2))) ∧ Hid (Below (w.heap.size + 1) w1 wr)) (fun sv _ _ => l.length - (intOf sv).toNat)
  case atStart => exact ⟨0, Nat.zero_le _, rfl, Lib.hid (OwnW.nil _ _), Lib.hid (Below.refl _ _)⟩
  case round =>
    obtain ⟨wi, hwi⟩ : ∃ w0 : World, w0 = wr := ⟨_, rfl⟩
    rw [← hwi] at hrel ⊢
    clear hwi
    obtain ⟨i, hi, rfl, HI, HB⟩ := hrel
    have Hbw := Lib.hid (Hb0.out.trans (HB.out.mono (Nat.le_succ _)))
    rcases Nat.lt_or_ge i l.length with hlt | hge
    · obtain ⟨b, off, rfl, hb, hc1, hc2⟩ := RWants.at2 Hat.out Hbw.out hlt
      have hk1 : wi.cell? ⟨w.heap.size, 0, none⟩ = some (.int .i64 x1) := (HB.out.cell (p := ⟨w.heap.size, 0, none⟩) (Nat.lt_succ_self _)).trans Hx1.out
      have hk2 : wi.cell? ⟨w.heap.size, 1, none⟩ = some (.int .i64 x2) := (HB.out.cell (p := ⟨w.heap.size, 1, none⟩) (Nat.lt_succ_self _)).trans Hx2.out
      have hbl : b < wi.heap.size := Nat.lt_of_lt_of_le hb Hbw.out.size
      have hwl : w.heap.size < wi.heap.size := by have := HB.out.size; omega
      have Hsu := Lib.hid (without_succ (x := ((x1, x2) : WantD)) hlt)
      have Hm := Lib.hid (List.getElem_mem hlt)
      obtain ⟨y, hy⟩ : ∃ y, y = l[i] := ⟨_, rfl⟩
      rw [← hy] at hc1 hc2 Hsu Hm
      clear hy
      obtain ⟨y1, y2⟩ := y
      have hq := fun w => eqWant w y1 y2 x1 x2
      have hb1 : RowKit.Below (w.heap.size + 1) w1 (wi.alloc (.cells #[.int .i64 y1, .int .i64 y2] 44)) := HB.out.alloc (by omega) _
      have HB1 := Lib.hid hb1
      clear hb1
      obtain ⟨AV, kV, rfl⟩ := HI.out.shape
      have hwl2 : (withoutW (l.take i) (x1, x2)).length ≤ 1000000 := Nat.le_trans (List.length_filter_le _ _) (by rw [List.length_take]; omega)
      obtain ⟨L, hL⟩ : ∃ L, L = (withoutW (l.take i) (x1, x2)).length := ⟨_, rfl⟩
      have HL0 := Lib.hid hL
      have HO2 := Lib.hid (show wi.ownsRow (w.heap.size + 1) 44 2 (.slice AV L kV) L ((withoutW (l.take i) (x1, x2)).flatMap wantCells) by rw [hL]; exact HI.out)
      have HOa := Lib.hid (World.ownsRow.alloc HO2.out (.cells #[.int .i64 y1, .int .i64 y2] 44))
      rw [← hL] at hwl2 ⊢
      clear hL
      cases hd : (((y1, y2) : WantD) == (x1, x2)) with
      | true =>
        simp only [hd] at hq
        have Hr := Lib.hid (show withoutW (l.take (i + 1)) (x1, x2) = withoutW (l.take i) (x1, x2) by rw [Hsu.out]; simp [bne, hd])
        clear hd
        go_wp2
        go_roundw
        case rel => exact ⟨i + 1, by omega, by go_num, Lib.hid (by rw [Hr.out]; have := HOa.out; unfold OwnW; rw [← HL0.out]; exact this), HB1⟩
        case measure => simp [intOf]; omega
      | false =>
        simp only [hd] at hq
        have Hr := Lib.hid (show withoutW (l.take (i + 1)) (x1, x2) = withoutW (l.take i) (x1, x2) ++ [(y1, y2)] by rw [Hsu.out]; simp [bne, hd])
        clear hd
        have hq1 := wi.heap.size
        go_wp2_with (at_builtin; go_loud (refine wpList_pushN rfl _ _ _ rfl eWant (v := .slice AV L kV) rfl (HOa.out.alloc _) (wi.heap.size + 1) (wantCells (y1, y2)) rfl rfl (by intro j u hu; rw [cell_of_row _ _ j _ _ _ (heap_new (by simp)), ← Array.getElem?_toList]; exact hu) (wantCells_one _) (by omega) (by simp; omega) ?_; intro v1 w3 hown1 hg1 hat1; have HO3 := Lib.hid hown1; have HB3 := Lib.hid ((HB1.out.alloc (by simp; omega) _).grown hg1 (by simp; omega) (fun g hg => (World.ownsRow.lt HO2.out g hg).1)); clear hown1 hg1 hat1))
        go_roundw
        case rel => exact ⟨i + 1, by omega, by go_num, Lib.hid (by rw [Hr.out]; exact OwnW.snoc (by rw [← HL0.out]; exact HO3.out)), HB3⟩
        case measure => simp [intOf]; omega
    · obtain rfl : i = l.length := by omega
      rw [List.take_length] at HI
      go_wp2
      go_ret
      exact ⟨_, rfl, HI.out.base (Nat.le_succ _), Hbw.out⟩
set_option maxRecDepth 100000 in
set_option maxHeartbeats 2000000 in
theorem refWithout_any (s : Value) (l : List WantD) (x : WantD) (w : World) (hs : RWants w (Lt w.heap.size) s l) (hl : l.length ≤ 1000000) :
    Calls Try.prog 19 #[s, .agg #[.int .i64 x.1, .int .i64 x.2]] w fun e w' => ∃ v, e = .returned v ∧ OwnW w' w.heap.size v (withoutW l x) ∧ Below w.heap.size w w' := by
  obtain ⟨A, c, rfl, hm, hat⟩ := hs.open_
  have Hat := Lib.hid hat
  obtain ⟨x1, x2⟩ := x
  clear hat hs
  go_enter Try.func19, Try.ntmps19
  go_wp2
  have hb0 := below_alloc w (.cells #[.int .i64 x1, .int .i64 x2] 44)
  have Hb0 := Lib.hid hb0
  have hs0 : (w.alloc (.cells #[.int .i64 x1, .int .i64 x2] 44)).heap.size = w.heap.size + 1 := by simp
  have hx1 : (w.alloc (.cells #[.int .i64 x1, .int .i64 x2] 44)).cell? ⟨w.heap.size, 0, none⟩ = some (.int .i64 x1) := by simp [go_sem]
  have hx2 : (w.alloc (.cells #[.int .i64 x1, .int .i64 x2] 44)).cell? ⟨w.heap.size, 1, none⟩ = some (.int .i64 x2) := by simp [go_sem]
  have Hx1 := Lib.hid hx1
  have Hx2 := Lib.hid hx2
  generalize w.alloc (.cells #[.int .i64 x1, .int .i64 x2] 44) = w1 at *
  clear hb0 hx1 hx2
  go_loopw [10, 5] (fun sv vv wr => ∃ i, i ≤ l.length ∧ sv = .int .i64 i ∧ Hid (OwnW wr (w.heap.size + 1) vv (withoutW (l.take i) (x1, x2))) ∧ Hid (Below (w.heap.size + 1) w1 wr)) (fun sv _ _ => l.length - (intOf sv).toNat)
  case atStart => exact ⟨0, Nat.zero_le _, rfl, Lib.hid (OwnW.nil _ _), Lib.hid (Below.refl _ _)⟩
  case round =>
    obtain ⟨wi, hwi⟩ : ∃ w0 : World, w0 = wr := ⟨_, rfl⟩
    rw [← hwi] at hrel ⊢
    clear hwi
    obtain ⟨i, hi, rfl, HI, HB⟩ := hrel
    have Hbw := Lib.hid (Hb0.out.trans (HB.out.mono (Nat.le_succ _)))
    rcases Nat.lt_or_ge i l.length with hlt | hge
    · obtain ⟨b, off, rfl, hb, hc1, hc2⟩ := RWants.at2 Hat.out Hbw.out hlt
      have hk1 : wi.cell? ⟨w.heap.size, 0, none⟩ = some (.int .i64 x1) := (HB.out.cell (p := ⟨w.heap.size, 0, none⟩) (Nat.lt_succ_self _)).trans Hx1.out
      have hk2 : wi.cell? ⟨w.heap.size, 1, none⟩ = some (.int .i64 x2) := (HB.out.cell (p := ⟨w.heap.size, 1, none⟩) (Nat.lt_succ_self _)).trans Hx2.out
      have hbl : b < wi.heap.size := Nat.lt_of_lt_of_le hb Hbw.out.size
      have hwl : w.heap.size < wi.heap.size := by have := HB.out.size; omega
      have Hsu := Lib.hid (without_succ (x := ((x1, x2) : WantD)) hlt)
      have Hm := Lib.hid (List.getElem_mem hlt)
      obtain ⟨y, hy⟩ : ∃ y, y = l[i] := ⟨_, rfl⟩
      rw [← hy] at hc1 hc2 Hsu Hm
      clear hy
      obtain ⟨y1, y2⟩ := y
      have hq := fun w => eqWant w y1 y2 x1 x2
      have hb1 : RowKit.Below (w.heap.size + 1) w1 (wi.alloc (.cells #[.int .i64 y1, .int .i64 y2] 44)) := HB.out.alloc (by omega) _
      have HB1 := Lib.hid hb1
      clear hb1
      obtain ⟨AV, kV, rfl⟩ := HI.out.shape
      have hwl2 : (withoutW (l.take i) (x1, x2)).length ≤ 1000000 := Nat.le_trans (List.length_filter_le _ _) (by rw [List.length_take]; omega)
      obtain ⟨L, hL⟩ : ∃ L, L = (withoutW (l.take i) (x1, x2)).length := ⟨_, rfl⟩
      have HL0 := Lib.hid hL
      have HO2 := Lib.hid (show wi.ownsRow (w.heap.size + 1) 44 2 (.slice AV L kV) L ((withoutW (l.take i) (x1, x2)).flatMap wantCells) by rw [hL]; exact HI.out)
      have HOa := Lib.hid (World.ownsRow.alloc HO2.out (.cells #[.int .i64 y1, .int .i64 y2] 44))
      rw [← hL] at hwl2 ⊢
      clear hL
      cases hd : (((y1, y2) : WantD) == (x1, x2)) with
      | true =>
        simp only [hd] at hq
        have Hr := Lib.hid (show withoutW (l.take (i + 1)) (x1, x2) = withoutW (l.take i) (x1, x2) by rw [Hsu.out]; simp [bne, hd])
        clear hd
        go_wp2
        go_roundw
        case rel => exact ⟨i + 1, by omega, by go_num, Lib.hid (by rw [Hr.out]; have := HOa.out; unfold OwnW; rw [← HL0.out]; exact this), HB1⟩
        case measure => simp [intOf]; omega
      | false =>
        simp only [hd] at hq
        have Hr := Lib.hid (show withoutW (l.take (i + 1)) (x1, x2) = withoutW (l.take i) (x1, x2) ++ [(y1, y2)] by rw [Hsu.out]; simp [bne, hd])
        clear hd
        have hq1 := wi.heap.size
        go_wp2_with (at_builtin; go_loud (refine wpList_pushN rfl _ _ _ rfl eWant (v := .slice AV L kV) rfl (HOa.out.alloc _) (wi.heap.size + 1) (wantCells (y1, y2)) rfl rfl (by intro j u hu; rw [cell_of_row _ _ j _ _ _ (heap_new (by simp)), ← Array.getElem?_toList]; exact hu) (wantCells_one _) (by omega) (by simp; omega) ?_; intro v1 w3 hown1 hg1 hat1; have HO3 := Lib.hid hown1; have HB3 := Lib.hid ((HB1.out.alloc (by simp; omega) _).grown hg1 (by simp; omega) (fun g hg => (World.ownsRow.lt HO2.out g hg).1)); clear hown1 hg1 hat1))
        go_roundw
        case rel => exact ⟨i + 1, by omega, by go_num, Lib.hid (by rw [Hr.out]; exact OwnW.snoc (by rw [← HL0.out]; exact HO3.out)), HB3⟩
        case measure => simp [intOf]; omega
    · obtain rfl : i = l.length := by omega
      rw [List.take_length] at HI
      go_wp2
      go_ret
      exact ⟨_, rfl, HI.out.base (Nat.le_succ _), Hbw.out⟩
end Go.Proofs.Ytcebafeaikipmaa

namespace Go.Proofs.Ytcebafeaikipmaa
open Go.RowKit

theorem flat_len {α : Type} {n : Nat} {cells : α → List Value} (hc : ∀ x, (cells x).length = n) : ∀ l : List α, (l.flatMap cells).length = l.length * n
  | [] => by simp
  | x :: l => by rw [List.flatMap_cons, List.length_append, hc, flat_len hc l, List.length_cons, Nat.succ_mul]; omega
theorem itemCells_len (x : ItemD) : (itemCells x).length = 5 := rfl
theorem itemCells_one (x : ItemD) : ∀ u ∈ itemCells x, u.oneCell' = true := by
  intro u hu
  simp only [itemCells, keyCells, List.cons_append, List.nil_append, List.mem_cons, List.not_mem_nil, or_false] at hu
  rcases hu with rfl | rfl | rfl | rfl | rfl <;> rfl
theorem eItem5 : ElemN Try.prog 22 35 5 80 := elemN_mk Try.underlying22 (by kernel_rfl) (by omega) (by omega)
set_option maxRecDepth 100000 in
set_option maxHeartbeats 1000000 in
theorem CloneItems_any (s : Value) (l : List ItemD) (w : World) (hs : RArr 5 (VCells itemCells) w (Lt w.heap.size) s l) (hl : l.length ≤ 1000000) :
    Calls Try.prog 22 #[s] w fun e w' => ∃ v, e = .returned v ∧ w'.ownsRow w.heap.size 35 5 v l.length (l.flatMap itemCells) ∧ Below w.heap.size w w' := by
  obtain ⟨A, c, rfl, hm, hat⟩ := hs.open_
  have q22 : ∀ (w : World) (a : Option Addr) (n c n' c' : Nat), (binOp .eql 22 (.slice a n c) (.slice none n' c')).run Try.prog w = .ok (.bool a.isNone) w := fun w a n c n' c' => Go.Lib.run_eql_slice_nil w _ _ a n c n' c' Try.underlying22
  obtain ⟨ht, h64, hs0, i, z, hi, hz, hsz, hby, hzs⟩ := eItem5
  cases A with
  | none =>
    have h0 : l = [] := by
      cases l with
      | nil => rfl
      | cons x r => obtain ⟨b, off, e, _⟩ := hat (by simp); cases e
    subst h0
    clear hi hz hsz hby hzs ht hs
    go_enter Try.func22, Try.ntmps22
    go_wp2
    go_ret
    exact ⟨_, rfl, by simpa using World.ownsRow_nil _ _ _ _, Below.refl _ _⟩
  | some A =>
    have Hc := Lib.hid (show ∀ j u, (l.flatMap itemCells)[j]? = some u → w.cell? (A.add j) = some u by
      intro j u hu
      have hj := (List.getElem?_eq_some_iff.1 hu).1
      have hfl : (l.flatMap itemCells).length = l.length * 5 := flat_len itemCells_len l
      obtain ⟨b, off, e, hb, hc⟩ := hat (by omega)
      cases e
      rw [add_none]
      have hk : j / 5 < l.length := by omega
      have := hc (j / 5) hk (j % 5) u (by rw [← flatMap_cells itemCells_len l (j / 5) (j % 5) hk (by omega), show j / 5 * 5 + j % 5 = j by omega]; exact hu)
      rwa [show off + j / 5 * 5 + j % 5 = off + j by omega] at this)
    have Ho := Lib.hid (show ∀ u ∈ l.flatMap itemCells, u.oneCell' = true by
      intro u hu
      obtain ⟨x, _, hx⟩ := List.mem_flatMap.1 hu
      exact itemCells_one x u hx)
    have Hfl := Lib.hid (show (l.flatMap itemCells).length = l.length * 5 from flat_len itemCells_len l)
    have Hi := Lib.hid hi; have Hz := Lib.hid hz; have Hsz := Lib.hid hsz; have Hby := Lib.hid hby; have Hzs := Lib.hid hzs
    clear hat hs hi hz hsz hby hzs
    go_enter Try.func22, Try.ntmps22
    go_wp2_with (at_builtin; go_loud (refine wpList_append_own_at _ rfl _ _ _ rfl w.heap.size 35 i z 5 80 ht Hi.out Hz.out Hsz.out Hby.out Hzs.out hs0 (.slice (some ⟨w.heap.size, 0, none⟩) 0 0) 0 [] rfl (World.ownsRow_lit (base := w.heap.size) (e := 35) (size := 5) w #[] 0 (Nat.le_refl _) (by unfold maxLen; omega) rfl) A l.length c (l.flatMap itemCells) rfl Hfl.out (fun j u hu => (by have h := Hc.out j u hu; rw [World.cell?_alloc_lt _ _ _ (World.block_lt_of_cell? w _ h)]; exact h)) Ho.out (by unfold maxLen; omega) (by omega) (by simp) ?_; intro v1 w3 hown1 hg1 hnil1 hat1))
    go_ret
    exact ⟨v1, rfl, by simpa using hown1, (below_alloc _ _).grown hg1 (by simp) (fun k hk => by simp [Value.ownBlock] at hk; omega)⟩
set_option maxRecDepth 100000 in
set_option maxHeartbeats 1000000 in
theorem CloneWants_any (s : Value) (l : List WantD) (w : World) (hs : RArr 2 (VCells wantCells) w (Lt w.heap.size) s l) (hl : l.length ≤ 1000000) :
    Calls Try.prog 37 #[s] w fun e w' => ∃ v, e = .returned v ∧ w'.ownsRow w.heap.size 44 2 v l.length (l.flatMap wantCells) ∧ Below w.heap.size w w' := by
  obtain ⟨A, c, rfl, hm, hat⟩ := hs.open_
  have q22 : ∀ (w : World) (a : Option Addr) (n c n' c' : Nat), (binOp .eql 26 (.slice a n c) (.slice none n' c')).run Try.prog w = .ok (.bool a.isNone) w := fun w a n c n' c' => Go.Lib.run_eql_slice_nil w _ _ a n c n' c' Try.underlying26
  obtain ⟨ht, h64, hs0, i, z, hi, hz, hsz, hby, hzs⟩ := eWant
  cases A with
  | none =>
    have h0 : l = [] := by
      cases l with
      | nil => rfl
      | cons x r => obtain ⟨b, off, e, _⟩ := hat (by simp); cases e
    subst h0
    clear hi hz hsz hby hzs ht hs
    go_enter Try.func37, Try.ntmps37
    go_wp2
    go_ret
    exact ⟨_, rfl, by simpa using World.ownsRow_nil _ _ _ _, Below.refl _ _⟩
  | some A =>
    have Hc := Lib.hid (show ∀ j u, (l.flatMap wantCells)[j]? = some u → w.cell? (A.add j) = some u by
      intro j u hu
      have hj := (List.getElem?_eq_some_iff.1 hu).1
      have hfl : (l.flatMap wantCells).length = l.length * 2 := flat_len wantCells_len l
      obtain ⟨b, off, e, hb, hc⟩ := hat (by omega)
      cases e
      rw [add_none]
      have hk : j / 2 < l.length := by omega
      have := hc (j / 2) hk (j % 2) u (by rw [← flatMap_cells wantCells_len l (j / 2) (j % 2) hk (by omega), show j / 2 * 2 + j % 2 = j by omega]; exact hu)
      rwa [show off + j / 2 * 2 + j % 2 = off + j by omega] at this)
    have Ho := Lib.hid (show ∀ u ∈ l.flatMap wantCells, u.oneCell' = true by
      intro u hu
      obtain ⟨x, _, hx⟩ := List.mem_flatMap.1 hu
      exact wantCells_one x u hx)
    have Hfl := Lib.hid (show (l.flatMap wantCells).length = l.length * 2 from flat_len wantCells_len l)
    have Hi := Lib.hid hi; have Hz := Lib.hid hz; have Hsz := Lib.hid hsz; have Hby := Lib.hid hby; have Hzs := Lib.hid hzs
    clear hat hs hi hz hsz hby hzs
    go_enter Try.func37, Try.ntmps37
    go_wp2_with (at_builtin; go_loud (refine wpList_append_own_at _ rfl _ _ _ rfl w.heap.size 44 i z 2 16 ht Hi.out Hz.out Hsz.out Hby.out Hzs.out hs0 (.slice (some ⟨w.heap.size, 0, none⟩) 0 0) 0 [] rfl (World.ownsRow_lit (base := w.heap.size) (e := 44) (size := 2) w #[] 0 (Nat.le_refl _) (by unfold maxLen; omega) rfl) A l.length c (l.flatMap wantCells) rfl Hfl.out (fun j u hu => (by have h := Hc.out j u hu; rw [World.cell?_alloc_lt _ _ _ (World.block_lt_of_cell? w _ h)]; exact h)) Ho.out (by unfold maxLen; omega) (by omega) (by simp) ?_; intro v1 w3 hown1 hg1 hnil1 hat1))
    go_ret
    exact ⟨v1, rfl, by simpa using hown1, (below_alloc _ _).grown hg1 (by simp) (fun k hk => by simp [Value.ownBlock] at hk; omega)⟩
end Go.Proofs.Ytcebafeaikipmaa

namespace Go.Proofs.Ytcebafeaikipmaa
open Go.RowKit

set_option maxRecDepth 100000 in
set_option maxHeartbeats 2000000 in
theorem refHas27_any (s : Value) (l : List WantD) (x1 x2 : Int) (w : World) (hs : RWants w (Lt w.heap.size) s l) :
    Calls Try.prog 25 #[s, .int .i64 x1, .int .i64 x2] w fun e w' => e = .returned (.bool (hasW l (x1, x2))) ∧ Below w.heap.size w w' := by
  obtain ⟨A, c, rfl, hm, hat⟩ := hs.open_
  have Hat := Lib.hid hat
  clear hat hs
  go_enter Try.func25, Try.ntmps25
  go_wp2
  go_loopw [11] (fun sv wr => ∃ i, i ≤ l.length ∧ sv = .int .i64 i ∧ Hid ((l.take i).any (· == (x1, x2)) = false) ∧ Hid (Below w.heap.size w wr)) (fun sv _ => l.length - (intOf sv).toNat)
  case atStart => exact ⟨0, Nat.zero_le _, rfl, Lib.hid rfl, Lib.hid (Below.refl _ _)⟩
  case round =>
    obtain ⟨wi, hwi⟩ : ∃ w0 : World, w0 = wr := ⟨_, rfl⟩
    rw [← hwi] at hrel ⊢
    clear hwi
    obtain ⟨i, hi, rfl, HI, HB⟩ := hrel
    rcases Nat.lt_or_ge i l.length with hlt | hge
    · obtain ⟨b, off, rfl, hb, hc1, hc2⟩ := RWants.at2 Hat.out HB.out hlt
      have hbl : b < wi.heap.size := Nat.lt_of_lt_of_le hb HB.out.size
      have Hsu := Lib.hid (any_take_succ (· == ((x1, x2) : WantD)) l i hlt)
      have Hm := Lib.hid (List.getElem_mem hlt)
      obtain ⟨y, hy⟩ : ∃ y, y = l[i] := ⟨_, rfl⟩
      rw [← hy] at hc1 hc2 Hsu Hm
      clear hy
      obtain ⟨y1, y2⟩ := y
      have HB1 := Lib.hid (HB.out.alloc HB.out.size (.cells #[.int .i64 y1, .int .i64 y2] 44))
      have Hde := Lib.hid (show (((y1, y2) : WantD) == (x1, x2)) = (y1 == x1 && y2 == x2) from rfl)
      by_cases h1 : y1 = x1
      · subst h1
        by_cases h2 : y2 = x2
        · subst h2
          have Hr := Lib.hid (show hasW l (y1, y2) = true from hasW_iff.2 Hm.out)
          go_wp2
          go_ret
          exact ⟨ret_bool Hr.out.symm, HB1.out⟩
        · have h2' : (y2 == x2) = false := by simpa using h2
          have Hr := Lib.hid (show (l.take (i + 1)).any (· == ((y1, x2) : WantD)) = false by rw [Hsu.out, HI.out, Hde.out, h2']; simp)
          go_wp2
          go_roundw
          case rel => exact ⟨i + 1, by omega, by go_num, Hr, HB1⟩
          case measure => simp [intOf]; omega
      · have h1' : (y1 == x1) = false := by simpa using h1
        have Hr := Lib.hid (show (l.take (i + 1)).any (· == ((x1, x2) : WantD)) = false by rw [Hsu.out, HI.out, Hde.out, h1']; simp)
        go_wp2
        go_roundw
        case rel => exact ⟨i + 1, by omega, by go_num, Hr, HB1⟩
        case measure => simp [intOf]; omega
    · obtain rfl : i = l.length := by omega
      have Hr := Lib.hid (show hasW l (x1, x2) = false by unfold hasW; have := HI.out; rwa [List.take_length] at this)
      go_wp2
      go_ret
      exact ⟨ret_bool Hr.out.symm, HB.out⟩
theorem take_eq_succ {α : Type} {a b : List α} {i : Nat} (h1 : i < a.length) (h2 : i < b.length) (h : a.take i = b.take i) (e : a[i] = b[i]) : a.take (i + 1) = b.take (i + 1) := by
  rw [List.take_succ_eq_append_getElem h1, List.take_succ_eq_append_getElem h2, h, e]
set_option maxRecDepth 100000 in
set_option maxHeartbeats 2000000 in
theorem same_any (s t : Value) (l m : List WantD) (w : World) (hs : RWants w (Lt w.heap.size) s l) (ht : RWants w (Lt w.heap.size) t m) :
    Calls Try.prog 12 #[s, t] w fun e w' => e = .returned (.bool (l == m)) ∧ Below w.heap.size w w' := by
  obtain ⟨A, c, rfl, hm, hat⟩ := hs.open_
  obtain ⟨A2, c2, rfl, hm2, hat2⟩ := ht.open_
  have Hat := Lib.hid hat
  have Hat2 := Lib.hid hat2
  clear hat hs hat2 ht
  by_cases hl : l.length = m.length
  · have Hl := Lib.hid hl
    rw [← hl]
    clear hl
    go_enter Try.func12, Try.ntmps12
    go_wp2
    go_loopw [13] (fun sv wr => ∃ i, i ≤ l.length ∧ sv = .int .i64 i ∧ Hid (l.take i = m.take i) ∧ Hid (Below w.heap.size w wr)) (fun sv _ => l.length - (intOf sv).toNat)
    case atStart => exact ⟨0, Nat.zero_le _, rfl, Lib.hid (by simp), Lib.hid (Below.refl _ _)⟩
    case round =>
      obtain ⟨wi, hwi⟩ : ∃ w0 : World, w0 = wr := ⟨_, rfl⟩
      rw [← hwi] at hrel ⊢
      clear hwi
      obtain ⟨i, hi, rfl, HI, HB⟩ := hrel
      rcases Nat.lt_or_ge i l.length with hlt | hge
      · have hlt2 : i < m.length := by rw [← Hl.out]; exact hlt
        obtain ⟨b, off, rfl, hb, hc1, hc2⟩ := RWants.at2 Hat.out HB.out hlt
        obtain ⟨b2, off2, rfl, hb2, hd1, hd2⟩ := RWants.at2 Hat2.out HB.out hlt2
        have Hsu := Lib.hid (take_eq_succ hlt hlt2 HI.out)
        have Hne := Lib.hid (show l = m → l[i] = m[i] by intro e; subst e; rfl)
        obtain ⟨y, hy⟩ : ∃ y, y = l[i] := ⟨_, rfl⟩
        obtain ⟨z, hz⟩ : ∃ z, z = m[i] := ⟨_, rfl⟩
        rw [← hy] at hc1 hc2 Hsu Hne
        rw [← hz] at hd1 hd2 Hsu Hne
        clear hy hz hlt2
        obtain ⟨y1, y2⟩ := y
        obtain ⟨z1, z2⟩ := z
        have hq := fun w => eqWant w y1 y2 z1 z2
        cases hd : (((y1, y2) : WantD) == (z1, z2)) with
        | true =>
          simp only [hd] at hq
          have Hr := Lib.hid (Hsu.out (by simpa using hd))
          clear hd
          go_wp2_with fail
          go_quiet (fail)
          go_wp2
          go_roundw
          case rel => exact ⟨i + 1, by omega, by go_num, Hr, Lib.hid (below_drewN HB.out _)⟩
          case measure => simp [intOf]; omega
        | false =>
          simp only [hd] at hq
          have Hr := Lib.hid (show (l == m) = false from beq_eq_false_iff_ne.2 fun e => absurd (Hne.out e) (by simpa using hd))
          clear hd
          go_wp2_with fail
          go_quiet (fail)
          go_wp2
          go_ret
          exact ⟨ret_bool Hr.out.symm, below_drewN HB.out _⟩
      · obtain rfl : i = l.length := by omega
        have Hr := Lib.hid (show (l == m) = true by have := HI.out; rw [List.take_length, Hl.out, List.take_length] at this; simpa using this)
        go_wp2
        go_ret
        exact ⟨ret_bool Hr.out.symm, HB.out⟩
  · have Hr := Lib.hid (show (l == m) = false from beq_eq_false_iff_ne.2 fun e => hl (by rw [e]))
    have hne : ((l.length : Int) != (m.length : Int)) = true := by simp; omega
    go_enter Try.func12, Try.ntmps12
    go_wp2
    go_ret
    exact ⟨ret_bool Hr.out.symm, Below.refl _ _⟩
set_option maxRecDepth 100000 in
set_option maxHeartbeats 2000000 in
theorem light27_any (A : Option Addr) (n0 c0 : Nat) (s1 : Value) (r : Int) (wss : List (List (List Int))) (w : World) (hw : RIntsss w (Lt w.heap.size) s1 wss) :
    Calls Try.prog 8 #[.agg #[.slice A n0 c0, s1, .int .i64 r]] w fun e w' => e = .returned (.bool (lightC n0 wss)) ∧ Below w.heap.size w w' := by
  obtain ⟨A1, c1, rfl, hm, hat⟩ := hw.open_
  have Hat := Lib.hid hat; clear hat hw
  by_cases h1 : 7 < n0
  · have Hd := Lib.hid (show lightC n0 wss = false by simp [lightC]; omega)
    go_enter Try.func8, Try.ntmps8
    go_wp2
    go_ret
    exact ⟨ret_bool Hd.out.symm, below_alloc _ _⟩
  by_cases h2 : 7 < wss.length
  · have Hd := Lib.hid (show lightC n0 wss = false by simp [lightC]; omega)
    go_enter Try.func8, Try.ntmps8
    go_wp2
    go_ret
    exact ⟨ret_bool Hd.out.symm, below_alloc _ _⟩
  have Hbw := Lib.hid (below_alloc w (.cells #[.slice A n0 c0, .slice A1 wss.length c1, .int .i64 r] 25))
  go_enter Try.func8, Try.ntmps8
  go_wp2
  go_loop [20] (fun sv => ∃ k, k ≤ wss.length ∧ sv = .int .i64 k ∧ Hid ((wss.take k).all (fun ws => decide (ws.length ≤ 4) && ws.all fun w => decide (w.length ≤ 6)) = true)) (fun sv => wss.length - (intOf sv).toNat)
  case atStart => exact ⟨0, Nat.zero_le _, rfl, Lib.hid rfl⟩
  case round =>
    obtain ⟨k, hk, rfl, HI⟩ := hrel
    rcases Nat.lt_or_ge k wss.length with hklt | hge
    · obtain ⟨b, off, u, rfl, hb, hc, hu⟩ := Hat.out.at_ RIntss.stable (ag_of_below Hbw.out) hklt
      obtain ⟨A2, c2, rfl, hm2, hat2⟩ := hu.open_
      have Hat2 := Lib.hid hat2
      have Hsu := Lib.hid (all_take_succ (fun (ws : List (List Int)) => decide (ws.length ≤ 4) && ws.all fun w => decide (w.length ≤ 6)) wss k hklt)
      have Hat' := Lib.hid (fun h => all_at (l := wss) (k := k) (h := hklt) (p := fun (ws : List (List Int)) => decide (ws.length ≤ 4) && ws.all fun w => decide (w.length ≤ 6)) h)
      have hlc : lightC n0 wss = (decide (n0 ≤ 7) && decide (wss.length ≤ 7) && wss.all fun ws => decide (ws.length ≤ 4) && ws.all fun w => decide (w.length ≤ 6)) := rfl
      have Hlc := Lib.hid hlc
      obtain ⟨ws, hws⟩ : ∃ ws, ws = wss[k] := ⟨_, rfl⟩
      rw [← hws] at Hat2 Hsu Hat' hm2 hc
      clear hws hu hat2 hlc
      by_cases h4 : 4 < ws.length
      · have Hd := Lib.hid (show lightC n0 wss = false by rw [Hlc.out, Hat'.out (by simp; omega)]; simp)
        go_wp2
        go_ret
        exact ⟨ret_bool Hd.out.symm, Hbw.out⟩
      go_wp2
      go_loop [29] (fun sv => ∃ j, j ≤ ws.length ∧ sv = .int .i64 j ∧ Hid ((ws.take j).all (fun w => decide (w.length ≤ 6)) = true)) (fun sv => ws.length - (intOf sv).toNat)
      case atStart => exact ⟨0, Nat.zero_le _, rfl, Lib.hid rfl⟩
      case round =>
        obtain ⟨j, hj, rfl, HJ⟩ := hrel
        rcases Nat.lt_or_ge j ws.length with hjlt | hge
        · obtain ⟨b2, off2, u2, rfl, hb2, hc2, hu2⟩ := Hat2.out.at_ RInts.stable (Ag.refl _ _) hjlt
          obtain ⟨A3, c3, rfl, hm3, hat3⟩ := hu2.open_
          have Hsu2 := Lib.hid (all_take_succ (fun (w : List Int) => decide (w.length ≤ 6)) ws j hjlt)
          have Hat3 := Lib.hid (fun h => all_at (l := ws) (k := j) (h := hjlt) (p := fun (w : List Int) => decide (w.length ≤ 6)) h)
          obtain ⟨q, hq⟩ : ∃ q, q = ws[j].length := ⟨_, rfl⟩
          rw [← hq] at Hsu2 Hat3 hm3 hc2
          clear hq hu2 hat3
          by_cases h6 : 6 < q
          · have Hd := Lib.hid (show lightC n0 wss = false by rw [Hlc.out, Hat'.out (by rw [Hat3.out (by simp; omega)]; simp)]; simp)
            go_wp2
            go_ret
            exact ⟨ret_bool Hd.out.symm, Hbw.out⟩
          · go_wp2
            go_round
            case rel => exact ⟨j + 1, by omega, by go_num, Lib.hid (by rw [Hsu2.out, HJ.out]; simp; omega)⟩
            case measure => simp [intOf]; omega
        · obtain rfl : j = ws.length := by omega
          rw [List.take_length] at HJ
          go_wp2
          go_round
          case rel => exact ⟨k + 1, by omega, by go_num, Lib.hid (by rw [Hsu.out, HI.out, HJ.out]; simp; omega)⟩
          case measure => simp [intOf]; omega
    · obtain rfl : k = wss.length := by omega
      rw [List.take_length] at HI
      have Hd := Lib.hid (show lightC n0 wss = true by unfold lightC; rw [HI.out]; simp; omega)
      go_wp2
      go_ret
      exact ⟨ret_bool Hd.out.symm, Hbw.out⟩
end Go.Proofs.Ytcebafeaikipmaa

namespace Go.Proofs.Ytcebafeaikipmaa
open Go.RowKit

structure RowsH {α : Type} (R : Rd α) (e : TypeId) (w : World) (B : Nat) (S : Nat → Prop) (v : Value) (us : List Value) (M : List α) : Prop where
  own : w.ownsRow B e 1 v M.length us
  rd : ∀ i (h : i < M.length) u, us[i]? = some u → R w (fun b => S b ∧ b < w.heap.size ∧ some b ≠ v.ownBlock) u M[i]
section
variable {α : Type} {R : Rd α} {e : TypeId} {w w3 w' : World} {B : Nat} {S : Nat → Prop} {v v' u : Value} {us : List Value} {M : List α} {c : α}
theorem RowsH.nil (R : Rd α) (e : TypeId) (w : World) (B : Nat) (S : Nat → Prop) : RowsH R e w B S (.slice none 0 0) [] [] := ⟨World.ownsRow_nil _ _ _ _, fun i h => absurd h (by simp)⟩
theorem RowsH.lt (h : RowsH R e w B S v us M) (b : Nat) (hb : v.ownBlock = some b) : B ≤ b ∧ b < w.heap.size := h.own.lt b hb
theorem RowsH.keep (hs : Stable R) (h : RowsH R e w B S v us M) (hk : ∀ b, b < w.heap.size → S b ∨ v.ownBlock = some b → w'.heap[b]? = w.heap[b]?) (hz : w.heap.size ≤ w'.heap.size) : RowsH R e w' B S v us M := by
  refine ⟨?_, fun i hi u hu => hs _ _ _ _ _ _ (h.rd i hi u hu) (fun b hb => hk b hb.2.1 (.inl hb.1)) fun b hb => ⟨hb.1, Nat.lt_of_lt_of_le hb.2.1 hz, hb.2.2⟩⟩
  have hlt := h.lt
  obtain ⟨h1, h2⟩ := h.own
  refine ⟨h1, ?_⟩
  rcases h2 with h2 | ⟨g, cap, cur, e1, e2, e3, e4⟩
  · exact .inl h2
  · have ho : v.ownBlock = some g := by rw [e1]; rfl
    exact .inr ⟨g, cap, cur, e1, e2, (hk g (hlt g ho).2 (.inr ho)).trans e3, e4⟩
theorem RowsH.up (hs : Stable R) (h : RowsH R e w B S v us M) (hb : Below w.heap.size w w') : RowsH R e w' B S v us M := h.keep hs (fun b hb' _ => hb.block b hb') hb.size
theorem RowsH.sub (hs : Stable R) {S' : Nat → Prop} (h : RowsH R e w B S v us M) (hS : ∀ b, b < w.heap.size → S b → S' b) : RowsH R e w B S' v us M :=
  ⟨h.own, fun i hi u hu => hs.sub (h.rd i hi u hu) fun b hb => ⟨hS b hb.2.1 hb.1, hb.2⟩⟩
theorem RowsH.push (hs : Stable R) (h : RowsH R e w B S v us M) (hb : Below w.heap.size w w3)
    (hu : R w3 (fun b => S b ∧ b < w3.heap.size ∧ some b ≠ v.ownBlock) u c) (hown : w'.ownsRow B e 1 v' (M.length + 1) (us ++ [u])) (hg : w3.grownBy w' v.ownBlock) (ho : v'.ownBlock = v.ownBlock ∨ v'.ownBlock = some w3.heap.size) :
    RowsH R e w' B S v' (us ++ [u]) (M ++ [c]) := by
  have hul : us.length = M.length := by simpa using h.own.1
  refine ⟨by simpa using hown, fun i hi x hx => ?_⟩
  have hne : ∀ b, b < w3.heap.size → some b ≠ v.ownBlock → some b ≠ v'.ownBlock := fun b hb1 hb2 e => by
    rcases ho with ho | ho
    · exact hb2 (e.trans ho)
    · rw [ho] at e; simp at e; omega
  rcases Nat.lt_or_ge i M.length with k | k
  · rw [List.getElem_append_left k]
    rw [List.getElem?_append_left (by omega)] at hx
    refine hs _ _ _ _ _ _ (h.rd i k x hx) (fun b hb' => (hg.block b (Nat.lt_of_lt_of_le hb'.2.1 hb.size) hb'.2.2).trans (hb.block b hb'.2.1)) fun b hb' => ⟨hb'.1, Nat.lt_of_lt_of_le hb'.2.1 (Nat.le_trans hb.size hg.size), hne b (Nat.lt_of_lt_of_le hb'.2.1 hb.size) hb'.2.2⟩
  · have hik : i = M.length := by simp at hi; omega
    subst hik
    rw [List.getElem?_append_right (by omega), hul] at hx
    simp at hx
    subst hx
    rw [List.getElem_append_right (Nat.le_refl _)]
    simp only [Nat.sub_self, List.getElem_cons_zero]
    exact hs _ _ _ _ _ _ hu (fun b hb' => hg.block b hb'.2.1 hb'.2.2) fun b hb' => ⟨hb'.1, Nat.lt_of_lt_of_le hb'.2.1 hg.size, hne b hb'.2.1 hb'.2.2⟩
theorem RowsH.reads (hs : Stable R) (h : RowsH R e w B S v us M) (hS : ∀ g, v.ownBlock = some g → S g) : RSl R w (fun b => S b ∧ b < w.heap.size) v M :=
  reads_of_own h.own rfl (fun _ hg => ⟨hS _ hg, (h.lt _ hg).2⟩) fun k hk u hu => hs.sub (h.rd k hk u hu) fun _ hb => ⟨hb.1, hb.2.1⟩
end
end Go.Proofs.Ytcebafeaikipmaa

namespace Go.Proofs.Ytcebafeaikipmaa
open Go.RowKit

theorem eWantss : Elem1 Try.prog 23 36 24 := elem1_mk (z := .slice none 0 0) Try.underlying23 (by kernel_rfl) (by omega) rfl
def OnlyPost (items : List ItemD) (wss : List (List (List Int))) (r : Int) (l : List WantD) (w : World) (e : Ending) (w' : World) : Prop :=
  ∃ vI vW, e = .returned (.agg #[vI, vW, .int .i64 r]) ∧ RItems w' (Lt w'.heap.size) vI items ∧ RIntsss w' (Lt w'.heap.size) vW (onlyW l wss) ∧ Below w.heap.size w w'
theorem set3R {w : World} {rb : Nat} {t : TypeId} {a b c : Value} (h : w.heap[rb]? = some (.cells #[a, b, c] t (0, 0))) (x y z : Value) :
    (((w.setCell ⟨rb, 0, none⟩ x).setCell ⟨rb, 1, none⟩ y).setCell ⟨rb, 2, none⟩ z).heap[rb]? = some (.cells #[x, y, z] t (0, 0)) :=
  heap_setCell_same _ rb 2 _ _ z (heap_setCell_same _ rb 1 _ _ y (heap_setCell_same w rb 0 _ _ x h))
theorem below3R {B rb : Nat} {w w1 : World} (h : Below B w w1) (hb : B ≤ rb) (x y z : Value) : Below B w (((w1.setCell ⟨rb, 0, none⟩ x).setCell ⟨rb, 1, none⟩ y).setCell ⟨rb, 2, none⟩ z) :=
  ((h.setCell (p := ⟨rb, 0, none⟩) hb x).setCell (p := ⟨rb, 1, none⟩) hb y).setCell (p := ⟨rb, 2, none⟩) hb z
theorem ag3R {S : Nat → Prop} {w : World} {rb : Nat} (h : ∀ b, S b → b ≠ rb) (x y z : Value) : Ag S w (((w.setCell ⟨rb, 0, none⟩ x).setCell ⟨rb, 1, none⟩ y).setCell ⟨rb, 2, none⟩ z) := by
  have a1 : ∀ (w : World) (j : Nat) (q : Value), Ag (fun b => b ≠ rb) w (w.setCell ⟨rb, j, none⟩ q) := fun w j q => ag_setCell w ⟨rb, j, none⟩ q
  exact (((a1 _ _ _).trans (a1 _ _ _)).trans (a1 _ _ _)).sub h
theorem onlyRow_succ {l : List WantD} {i k : Nat} {ws : List (List Int)} (h : k < ws.length) : onlyRow l i ws (k + 1) = onlyRow l i ws k ++ if hasW l ((i : Int), (k : Int)) then [ws[k]] else [] := by
  rw [onlyRow]; simp [List.getD, h]
set_option maxRecDepth 100000 in
set_option maxHeartbeats 4000000 in
theorem refOnly_any (s0 s1 sl : Value) (r : Int) (items : List ItemD) (wss : List (List (List Int))) (l : List WantD) (w : World) (h0 : RItems w (Lt w.heap.size) s0 items) (hw : RIntsss w (Lt w.heap.size) s1 wss) (hl : RWants w (Lt w.heap.size) sl l) (hb1 : wss.length ≤ 1000) (hb2 : ∀ ws ∈ wss, ws.length ≤ 1000) :
    Calls Try.prog 11 #[.agg #[s0, s1, .int .i64 r], sl] w (OnlyPost items wss r l w) := by
  obtain ⟨A0, c0, rfl, hm0, -⟩ := h0.open_
  obtain ⟨A1, c1, rfl, hm1, hat1⟩ := hw.open_
  obtain ⟨AL, cL, rfl, hmL, -⟩ := hl.open_
  have H0 := Lib.hid h0
  have Hat := Lib.hid hat1
  have HL := Lib.hid hl
  have Hlen := Lib.hid hb2
  clear h0 hw hl hat1 hb2
  go_enter Try.func11, Try.ntmps11
  go_wp2
  obtain ⟨w1, hw1⟩ : ∃ w1, w1 = ((w.alloc (.cells #[.slice A0 items.length c0, .slice A1 wss.length c1, .int .i64 r] 25)).alloc (.cells #[.slice none 0 0, .slice none 0 0, .int .i64 0] 25)).alloc (.cells #[.slice A0 items.length c0, .slice none 0 0, .int .i64 r] 25) := ⟨_, rfl⟩
  obtain ⟨P, hP⟩ : ∃ P, P = w.heap.size + 2 := ⟨_, rfl⟩
  have Hb0 := Lib.hid (show Below w.heap.size w w1 by rw [hw1]; exact (((below_alloc w _).alloc (by simp) _).alloc (by simp; omega) _))
  have hs1 : w1.heap.size = P + 1 := by rw [hw1, hP]; simp
  have hP0 : w.heap.size + 1 < P := by omega
  have Hx1 := Lib.hid (show w1.cell? ⟨w.heap.size, 1, none⟩ = some (.slice A1 wss.length c1) by rw [hw1]; simp [go_sem])
  have Hq1 := Lib.hid (show w1.heap[w.heap.size + 1]? = some (.cells #[.slice none 0 0, .slice none 0 0, .int .i64 0] 25 (0, 0)) by rw [hw1]; exact heap_at_alloc (by have := heap_alloc_new (w.alloc (.cells #[.slice A0 items.length c0, .slice A1 wss.length c1, .int .i64 r] 25)) (.cells #[.slice none 0 0, .slice none 0 0, .int .i64 0] 25); rwa [World.size_alloc] at this))
  have Hr1 := Lib.hid (show w1.heap[P]? = some (.cells #[.slice A0 items.length c0, .slice none 0 0, .int .i64 r] 25 (0, 0)) by rw [hw1]; exact heap_new (by rw [hP]; simp))
  have HP0 := Lib.hid hP0
  have Hs1 := Lib.hid hs1
  rw [← hw1, show w.heap.size + 1 + 1 = P by omega]
  clear hw1 hP hs1
  go_loopw [18] (fun sv wr => ∃ (i : Nat) (vW : Value) (us : List Value), i ≤ wss.length ∧ sv = .int .i64 i ∧ Hid (wr.heap[P]? = some (.cells #[.slice A0 items.length c0, vW, .int .i64 r] 25 (0, 0))) ∧ Hid (RowsH RIntss 36 wr (P + 1) (fun b => b ≠ P ∧ b ≠ w.heap.size + 1) vW us (onlyTo l wss i)) ∧ Hid (Below P w1 wr)) (fun sv _ => wss.length - (intOf sv).toNat)
  case atStart => exact ⟨0, _, [], Nat.zero_le _, rfl, Hr1, Lib.hid (RowsH.nil _ _ _ _ _), Lib.hid (Below.refl _ _)⟩
  case round =>
    obtain ⟨wi, hwi⟩ : ∃ w0 : World, w0 = wr := ⟨_, rfl⟩
    rw [← hwi] at hrel ⊢
    clear hwi
    obtain ⟨i, vW, us, hi, rfl, HPc, HR, HC⟩ := hrel
    obtain ⟨AW, cW, hvW⟩ := own_shape HR.out.own
    rw [onlyTo_len] at hvW
    subst hvW
    have Hbw := Lib.hid (show Below w.heap.size w wi from Hb0.out.trans (HC.out.mono (by have := HP0.out; omega)))
    have hPl : P < wi.heap.size := (Array.getElem?_eq_some_iff.1 HPc.out).1
    have hk1 : wi.cell? ⟨w.heap.size, 1, none⟩ = some (.slice A1 wss.length c1) := by
      rw [World.cell?_of_block (w := w1) (HC.out.block w.heap.size (by omega))]; exact Hx1.out
    rcases Nat.lt_or_ge i wss.length with hlt | hge
    · obtain ⟨b, off, u, rfl, hb, hc, hu⟩ := Hat.out.at_ RIntss.stable (ag_of_below Hbw.out) hlt
      obtain ⟨A2, c2, rfl, hm2, hat2⟩ := hu.open_
      have Hat2 := Lib.hid hat2
      have Hgd := Lib.hid (getD_at hlt)
      have Hln := Lib.hid (Hlen.out _ (List.getElem_mem hlt))
      obtain ⟨ws, hws⟩ : ∃ ws, ws = wss[i] := ⟨_, rfl⟩
      rw [← hws] at Hat2 Hgd hc hm2 Hln
      have hws2 : ws.length ≤ 1000 := Hln.out
      clear hws hu hat2
      go_wp2
      go_loopw [27, 7] (fun sv vL wr => ∃ (k : Nat) (ls : List Value), k ≤ ws.length ∧ sv = .int .i64 k ∧ Hid (RowsH RInts 37 wr wi.heap.size (fun b => (b ≠ P ∧ b ≠ w.heap.size + 1) ∧ some b ≠ (Value.slice AW i cW).ownBlock) vL ls (onlyRow l i ws k)) ∧ Hid (Below wi.heap.size wi wr)) (fun sv _ _ => ws.length - (intOf sv).toNat)
      case atStart => exact ⟨0, [], Nat.zero_le _, rfl, Lib.hid (RowsH.nil _ _ _ _ _), Lib.hid (Below.refl _ _)⟩
      case round =>
        obtain ⟨wk, hwk⟩ : ∃ w0 : World, w0 = wr := ⟨_, rfl⟩
        rw [← hwk] at hrel ⊢
        clear hwk
        obtain ⟨k, ls, hk, rfl, HRk, HBk⟩ := hrel
        have Hbk := Lib.hid (Hbw.out.trans (HBk.out.mono Hbw.out.size))
        rcases Nat.lt_or_ge k ws.length with hlt2 | hge2
        · obtain ⟨b2, off2, u2, rfl, hb2, hc2, hu2⟩ := Hat2.out.at_ RInts.stable (ag_of_below (HBk.out.mono Hbw.out.size)) hlt2
          obtain ⟨A3, c3, rfl, hm3, -⟩ := hu2.open_
          have Hu2 := Lib.hid hu2
          have Hsu := Lib.hid (onlyRow_succ (l := l) (i := i) hlt2)
          have Hhas := Lib.hid (refHas27_any _ l (i : Int) (k : Int) wk (RWants.stable.up HL.out Hbk.out))
          obtain ⟨AV, cV, hvV⟩ := own_shape HRk.out.own
          obtain ⟨L, hL⟩ : ∃ L, L = (onlyRow l i ws k).length := ⟨_, rfl⟩
          have HL0 := Lib.hid hL
          have hLk : L ≤ 1000 := by have := onlyRow_len l i ws k; omega
          rw [← hL] at hvV
          subst hvV
          obtain ⟨x, hx⟩ : ∃ x, x = ws[k] := ⟨_, rfl⟩
          rw [← hx] at Hu2 hc2 hm3 Hsu
          clear hL hx hu2
          have hbl : b2 < wk.heap.size := Nat.lt_of_lt_of_le hb2 Hbk.out.size
          cases hd : hasW l ((i : Int), (k : Int)) with
          | false =>
            have Hr := Lib.hid (show onlyRow l i ws (k + 1) = onlyRow l i ws k by rw [Hsu.out, hd]; simp)
            have Hd := Lib.hid hd
            clear hd
            go_wp2_with (go_at_call 25; with_reducible refine Hhas.out.mono ?_; rintro e w3 ⟨rfl, b3⟩; go_loud (rw [Hd.out]; have HB3 := Lib.hid b3; clear b3))
            go_roundw
            case rel => exact ⟨k + 1, ls, by omega, by go_num, Lib.hid (by rw [Hr.out]; exact HRk.out.up RInts.stable HB3.out), Lib.hid (HBk.out.trans (HB3.out.mono HBk.out.size))⟩
            case measure => simp [intOf]; omega
          | true =>
            have Hr := Lib.hid (show onlyRow l i ws (k + 1) = onlyRow l i ws k ++ [x] by rw [Hsu.out, hd]; simp)
            have Hd := Lib.hid hd
            clear hd
            go_wp2_with (first
              | (go_at_call 25; with_reducible refine Hhas.out.mono ?_; rintro e w3 ⟨rfl, b3⟩; go_loud (rw [Hd.out]; have HB3 := Lib.hid b3; have hc3 := (b3.cell (p := ⟨b2, off2 + k, none⟩) hbl).trans hc2; have HR3 := Lib.hid (HRk.out.up RInts.stable b3); have hs3 : wi.heap.size ≤ w3.heap.size := Nat.le_trans HBk.out.size b3.size; have HO3 := Lib.hid (show w3.ownsRow wi.heap.size 37 1 (.slice AV L cV) L ls by have := HR3.out.own; rwa [← HL0.out] at this); clear b3))
              | (at_builtin; go_loud (refine wpList_push rfl _ _ _ rfl eRow (v := .slice AV L cV) rfl (HO3.out.alloc _) w3.heap.size (.slice A3 x.length c3) rfl (by simp [go_sem]) rfl (by omega) (by simp; omega) ?_; intro v4 w4 hown4 hg4 hat4; have HO4 := Lib.hid hown4; have HG4 := Lib.hid hg4; have HT4 := Lib.hid hat4; clear hown4 hg4 hat4)))
            have hpu := HR3.out.push RInts.stable (below_alloc w3 (.cells #[.slice A3 x.length c3] 37)) (u := .slice A3 x.length c3) (c := x) (RInts.stable _ _ _ _ _ _ Hu2.out (fun b hb => (Below.heap_alloc w3 _ b (Nat.lt_of_lt_of_le hb (Nat.le_trans Hbk.out.size HB3.out.size))).trans (HB3.out.block b (Nat.lt_of_lt_of_le hb Hbk.out.size))) fun b hb => (by
                have h1 : b < w.heap.size := hb
                have h2 := HP0.out
                have h3 := Hbw.out.size
                refine ⟨⟨by omega, fun e => by have := (HR.out.lt b e.symm).1; omega⟩, by simp; omega, fun e => by have := (HR3.out.lt b e.symm).1; omega⟩)) (by rw [← HL0.out]; exact HO4.out) HG4.out HT4.out
            have HR4 := Lib.hid hpu
            have HB4 := Lib.hid ((HBk.out.trans (HB3.out.mono HBk.out.size)).trans (((below_alloc w3 (.cells #[.slice A3 x.length c3] 37)).mono hs3).grown HG4.out (by simp; omega) (fun g hg => (HR3.out.lt g hg).1)))
            clear hpu
            go_roundw
            case rel => exact ⟨k + 1, _, by omega, by go_num, Lib.hid (by rw [Hr.out]; exact HR4.out), HB4⟩
            case measure => simp [intOf]; omega
        · obtain rfl : k = ws.length := by omega
          obtain ⟨AV, cV, hvV⟩ := own_shape HRk.out.own
          subst hvV
          have hPk := (HBk.out.block P hPl).trans HPc.out
          have hx1 : wk.cell? ⟨P, 1, none⟩ = some (.slice AW i cW) := by rw [cell_of_row _ _ 1 _ _ _ hPk]; rfl
          have HPk := Lib.hid hPk
          have HRW := Lib.hid (HR.out.up RIntss.stable HBk.out)
          have HOW := Lib.hid (show wk.ownsRow (P + 1) 36 1 (.slice AW i cW) i us by have := HRW.out.own; rwa [onlyTo_len] at this)
          have hsk : P + 1 ≤ wk.heap.size := Nat.le_trans hPl HBk.out.size
          have hsk2 : P < wk.heap.size := hsk
          clear hPk
          go_wp2_with (at_builtin; go_loud (refine wpList_push rfl _ _ _ rfl eWantss (v := .slice AW i cW) rfl (HOW.out.alloc _) wk.heap.size (.slice AV (onlyRow l i ws ws.length).length cV) rfl (by simp [go_sem]) rfl (by omega) (by simp; omega) ?_; intro v4 w4 hown4 hg4 hat4; obtain ⟨A4, c4, rfl⟩ := own_shape hown4; have hq4 := hg4.block P (by simp; omega) (fun e => by have := (HRW.out.lt P e.symm).1; omega); have hP4 := hq4.trans (heap_at_alloc (o := .cells #[.slice AV (onlyRow l i ws ws.length).length cV] 36) HPk.out); have hx4 : w4.cell? ⟨P, 1, none⟩ = some (.slice AW i cW) := (by rw [cell_of_row _ _ 1 _ _ _ hP4]; rfl); have hf4 : w4.frozen? ⟨P, 1, none⟩ = false := frozen_of_row w4 P 1 _ _ hP4; have HP4 := Lib.hid hP4; have HO4 := Lib.hid hown4; have HG4 := Lib.hid hg4; have HT4 := Lib.hid hat4; clear hown4 hg4 hat4 hq4 hP4))
          have hpu := HRW.out.push RIntss.stable (below_alloc wk (.cells #[.slice AV (onlyRow l i ws ws.length).length cV] 36)) (u := .slice AV (onlyRow l i ws ws.length).length cV) (c := onlyRow l i ws ws.length) (RIntss.stable _ _ _ _ _ _ (HRk.out.reads RInts.stable fun g hg => by
              have h1 := HRk.out.lt g hg
              have h2 := HP0.out
              exact ⟨⟨by omega, by omega⟩, fun e => by have := (HR.out.lt g e.symm).2; omega⟩) (fun b hb => Below.heap_alloc wk _ b hb.2) fun b hb => ⟨hb.1.1, by have := hb.2; simp; omega, hb.1.2⟩) (by rw [onlyTo_len]; exact HO4.out) HG4.out HT4.out
          have HR5 := Lib.hid (hpu.keep RIntss.stable (w' := w4.setCell ⟨P, 1, none⟩ (.slice A4 (i + 1) c4)) (fun b hb hS => Below.heap_setCell w4 ⟨P, 1, none⟩ _ b (by
              have h1 := hpu.lt
              rcases hS with hS | hS
              · exact hS.1
              · have := (h1 b hS).1; show b ≠ P; omega)) (by simp))
          have HC5 := Lib.hid (show Below P w1 (w4.setCell ⟨P, 1, none⟩ (.slice A4 (i + 1) c4)) from ((((HC.out.trans (HBk.out.mono (Nat.le_of_lt hPl))).alloc (Nat.le_of_lt hsk2) _).grown HG4.out (by simp; omega) (fun g hg => by have := (HRW.out.lt g hg).1; omega)).setCell (p := ⟨P, 1, none⟩) (Nat.le_refl _) _))
          have HP5 := Lib.hid (heap_setCell_same w4 P 1 _ _ (.slice A4 (i + 1) c4) HP4.out)
          clear hpu
          go_roundw
          case rel => exact ⟨i + 1, _, _, by omega, by go_num, HP5, Lib.hid (by rw [onlyTo, Hgd.out]; exact HR5.out), HC5⟩
          case measure => simp [intOf]; omega
    · obtain rfl : i = wss.length := by omega
      have hp0 := cell_of_row _ _ 0 _ _ _ HPc.out
      have hp1 := cell_of_row _ _ 1 _ _ _ HPc.out
      have hp2 := cell_of_row _ _ 2 _ _ _ HPc.out
      have hq := (HC.out.block (w.heap.size + 1) (by have := HP0.out; omega)).trans Hq1.out
      have hq0 := cell_of_row _ _ 0 _ _ _ hq
      have hq1 := cell_of_row _ _ 1 _ _ _ hq
      have hq2 := cell_of_row _ _ 2 _ _ _ hq
      have hqf := fun j => frozen_of_row wi (w.heap.size + 1) j _ _ hq
      have Hq := Lib.hid hq
      have hql : w.heap.size + 1 < wi.heap.size := by omega
      have HRd := Lib.hid (HR.out.reads RIntss.stable fun g hg => by have := (HR.out.lt g hg).1; have := HP0.out; exact ⟨by omega, by omega⟩)
      clear hq
      go_wp2
      refine bodyPost_ret (v := .agg #[.slice A0 items.length c0, .slice AW wss.length cW, .int .i64 r]) (results_cell_row rfl _ _ (w.heap.size + 1) _ _ (0, 0) _ rfl (set3R Hq.out _ _ _) Try.underlying25 rfl (by kernel_rfl)) rfl ?_
      refine ⟨_, _, rfl, RItems.stable _ _ _ _ _ _ H0.out (fun b hb => ?_) (fun b hb => ?_), RIntsss.stable _ _ _ _ _ _ HRd.out (fun b hb => ?_) (fun b hb => ?_), below3R Hbw.out (by omega) _ _ _⟩
      · have h1 : b < w.heap.size := hb
        rw [ag3R (S := Lt (w.heap.size + 1)) (fun b hb => by have : b < w.heap.size + 1 := hb; omega) _ _ _ b (by show b < _; omega)]
        exact Hbw.out.block b h1
      · have h1 : b < w.heap.size := hb
        have : b < wi.heap.size := by omega
        simpa using this
      · exact ag3R (S := fun b => b ≠ w.heap.size + 1) (fun b hb => hb) _ _ _ b hb.1.2
      · simpa using hb.2
end Go.Proofs.Ytcebafeaikipmaa
