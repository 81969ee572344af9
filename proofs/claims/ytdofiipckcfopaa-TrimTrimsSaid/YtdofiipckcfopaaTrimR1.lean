/- The reference's question that is made smaller, in memory: plain law. -/
import Derived.Test.YtdofiipckcfopaaTrimW8
namespace Go.Proofs.Ytdofiipckcfopaa
open Go.RowKit

abbrev inR (w : World) (g : Nat) (vF vU : Value) : Nat → Prop := fun b => b < w.heap.size ∧ b ≠ g ∧ some b ≠ vF.ownBlock ∧ some b ≠ vU.ownBlock
structure RkAt (w : World) (g : Nat) (C : Cls) (F U : List Int) (E : Bool) (vC vF vU : Value) : Prop where
  hg : w.heap[g]? = some (.cells #[vC, vF, vU, .bool E] 39 (0, 0))
  oF : w.ownsRow (g + 1) 3 1 vF F.length (F.map (Value.int .i64))
  oU : w.ownsRow (g + 1) 3 1 vU U.length (U.map (Value.int .i64))
  cl : RIntss w (inR w g vF vU) vC C
  aFU : Apart vF vU
def Rk (w : World) (g : Nat) (s : TrS) : Prop := ∃ vC vF vU, RkAt w g s.C s.F s.U s.E vC vF vU
section
variable {w w' : World} {g : Nat} {C C' : Cls} {F U : List Int} {E : Bool} {vC vF vU vC' v1 : Value}
theorem RkAt.lt (h : RkAt w g C F U E vC vF vU) : g < w.heap.size := (Array.getElem?_eq_some_iff.1 h.hg).1
theorem RkAt.cell (h : RkAt w g C F U E vC vF vU) : w.cell? ⟨g, 0, none⟩ = some vC ∧ w.cell? ⟨g, 1, none⟩ = some vF ∧ w.cell? ⟨g, 2, none⟩ = some vU ∧ w.cell? ⟨g, 3, none⟩ = some (.bool E) := by
  refine ⟨?_, ?_, ?_, ?_⟩ <;> (rw [cell_of_row _ _ _ _ _ _ h.hg]; rfl)
theorem RkAt.frozen (h : RkAt w g C F U E vC vF vU) (o : Nat) : w.frozen? ⟨g, o, none⟩ = false := frozen_of_row w g o _ _ h.hg
theorem RkAt.reads (h : RkAt w g C F U E vC vF vU) : RIntss w (Lt w.heap.size) vC C := RIntss.stable.sub h.cl fun _ hb => hb.1
theorem RkAt.ltF (h : RkAt w g C F U E vC vF vU) : (∀ b, vF.ownBlock = some b → g < b ∧ b < w.heap.size) ∧ (∀ b, vU.ownBlock = some b → g < b ∧ b < w.heap.size) :=
  ⟨fun b hb => ⟨by have := (h.oF.lt b hb).1; omega, (h.oF.lt b hb).2⟩, fun b hb => ⟨by have := (h.oU.lt b hb).1; omega, (h.oU.lt b hb).2⟩⟩
theorem RkAt.rk (h : RkAt w g C F U E vC vF vU) : Rk w g ⟨C, F, U, E⟩ := ⟨_, _, _, h⟩
theorem RkAt.keep (h : RkAt w g C F U E vC vF vU) (hb : Below w.heap.size w w') : RkAt w' g C F U E vC vF vU := by
  have hch := ch_new hb (fun _ => False)
  refine ⟨(hb.block g h.lt).trans h.hg, hch.own h.oF fun _ _ x => x, hch.own h.oU fun _ _ x => x, ?_, h.aFU⟩
  exact RIntss.stable _ _ _ _ _ _ h.cl (fun b hb' => hb.block b hb'.1) fun b hb' => ⟨Nat.lt_of_lt_of_le hb'.1 hb.size, hb'.2⟩
/-- The clauses are another row. -/
theorem RkAt.setC (h : RkAt w g C F U E vC vF vU) (hr : RIntss w (inR w g vF vU) vC' C') : RkAt (w.setCell ⟨g, 0, none⟩ vC') g C' F U E vC' vF vU := by
  have hch := ch_set w g 0 vC'
  refine ⟨by rw [heap_setCell_same w g 0 _ _ vC' h.hg]; rfl, hch.own h.oF fun i hi e => by have := (h.ltF.1 i hi).1; omega, hch.own h.oU fun i hi e => by have := (h.ltF.2 i hi).1; omega, ?_, h.aFU⟩
  exact RIntss.stable _ _ _ _ _ _ hr (hch.ag fun b hb => ⟨hb.1, hb.2.1⟩) fun b hb => ⟨by simpa using hb.1, hb.2⟩
theorem RkAt.setE (h : RkAt w g C F U E vC vF vU) (b : Bool) : RkAt (w.setCell ⟨g, 3, none⟩ (.bool b)) g C F U b vC vF vU := by
  have hch := ch_set w g 3 (.bool b)
  refine ⟨by rw [heap_setCell_same w g 3 _ _ _ h.hg]; rfl, hch.own h.oF fun i hi e => by have := (h.ltF.1 i hi).1; omega, hch.own h.oU fun i hi e => by have := (h.ltF.2 i hi).1; omega, ?_, h.aFU⟩
  exact RIntss.stable _ _ _ _ _ _ h.cl (hch.ag fun b hb => ⟨hb.1, hb.2.1⟩) fun b hb => ⟨by simpa using hb.1, hb.2⟩
theorem RkAt.midg (h : RkAt w g C F U E vC vF vU) {row : Option Nat} (hg1 : w.grownBy w' row) (hr : row ≠ some g) : w'.heap[g]? = some (.cells #[vC, vF, vU, .bool E] 39 (0, 0)) := (hg1.block g h.lt fun e => hr e.symm).trans h.hg
theorem RkAt.pushF (h : RkAt w g C F U E vC vF vU) {n : Int} (o1 : w'.ownsRow (g + 1) 3 1 v1 (F.length + 1) (F.map (Value.int .i64) ++ [.int .i64 n])) (hg1 : w.grownBy w' vF.ownBlock) (hat : v1.ownBlock = vF.ownBlock ∨ v1.ownBlock = some w.heap.size) :
    RkAt (w'.setCell ⟨g, 1, none⟩ v1) g C (F ++ [n]) U E vC v1 vU := by
  have hmid := h.midg hg1 fun e => by have := (h.ltF.1 g e).1; omega
  have hs := ch_set w' g 1 v1
  have hU := (ch_grown hg1).own h.oU (fun i hi e => h.aFU i e.symm hi)
  have hn := newOr_app hat (Nat.le_refl _)
  have hsz : w.heap.size ≤ w'.heap.size := hg1.size
  refine ⟨by rw [heap_setCell_same w' g 1 _ _ v1 hmid]; rfl, ?_, hs.own hU fun i hi e => by have := (hU.lt i hi).1; omega, ?_, h.aFU.new hn fun b hb => (h.ltF.2 b hb).2⟩
  · rw [List.length_append, List.map_append]; exact hs.own o1 fun i hi e => by have := (o1.lt i hi).1; omega
  · refine RIntss.stable _ _ _ _ _ _ h.cl (fun b hb => ?_) fun b hb => ⟨by have := hb.1; simp; omega, hb.2.1, fun e => ?_, hb.2.2.2⟩
    · exact (Below.heap_setCell w' _ _ b hb.2.1).trans (hg1.block b hb.1 hb.2.2.1)
    · rcases hn b e.symm with x | x
      · exact hb.2.2.1 x.symm
      · have := hb.1; omega
theorem RkAt.pushU (h : RkAt w g C F U E vC vF vU) {n : Int} (o1 : w'.ownsRow (g + 1) 3 1 v1 (U.length + 1) (U.map (Value.int .i64) ++ [.int .i64 n])) (hg1 : w.grownBy w' vU.ownBlock) (hat : v1.ownBlock = vU.ownBlock ∨ v1.ownBlock = some w.heap.size) :
    RkAt (w'.setCell ⟨g, 2, none⟩ v1) g C F (U ++ [n]) E vC vF v1 := by
  have hmid := h.midg hg1 fun e => by have := (h.ltF.2 g e).1; omega
  have hs := ch_set w' g 2 v1
  have hF := (ch_grown hg1).own h.oF (fun i hi e => h.aFU i hi e.symm)
  have hn := newOr_app hat (Nat.le_refl _)
  have hsz : w.heap.size ≤ w'.heap.size := hg1.size
  refine ⟨by rw [heap_setCell_same w' g 2 _ _ v1 hmid]; rfl, hs.own hF fun i hi e => by have := (hF.lt i hi).1; omega, ?_, ?_, (h.aFU.symm.new hn fun b hb => (h.ltF.1 b hb).2).symm⟩
  · rw [List.length_append, List.map_append]; exact hs.own o1 fun i hi e => by have := (o1.lt i hi).1; omega
  · refine RIntss.stable _ _ _ _ _ _ h.cl (fun b hb => ?_) fun b hb => ⟨by have := hb.1; simp; omega, hb.2.1, hb.2.2.1, fun e => ?_⟩
    · exact (Below.heap_setCell w' _ _ b hb.2.1).trans (hg1.block b hb.1 hb.2.2.2)
    · rcases hn b e.symm with x | x
      · exact hb.2.2.2 x.symm
      · have := hb.1; omega
/-- What is new is not of it. -/
theorem RkAt.new_ (h : RkAt w g C F U E vC vF vU) (hsz : w.heap.size ≤ w'.heap.size) {b : Nat} (hb : w.heap.size ≤ b) (hb2 : b < w'.heap.size) : inR w' g vF vU b :=
  ⟨hb2, by have := h.lt; omega, fun e => by have := (h.ltF.1 b e.symm).2; omega, fun e => by have := (h.ltF.2 b e.symm).2; omega⟩
end
/-- A row's cells by name. -/
theorem cells_named {α : Type} {R : Rd α} {w : World} {S : Nat → Prop} {A : Option Addr} {n c : Nat} {l : List α} (h : RSl R w S (.slice A n c) l) :
    ∃ xs : List Value, xs.length = n ∧ (∀ i (hi : i < l.length) u, xs[i]? = some u → R w S u l[i]) ∧ (0 < n → ∃ b off, A = some ⟨b, off, none⟩ ∧ S b ∧ ∀ j u, xs[j]? = some u → w.cell? ⟨b, off + j, none⟩ = some u) := by
  obtain ⟨A', c', e, h1, h2, h3⟩ := h
  cases e
  by_cases hp : 0 < l.length
  · obtain ⟨b, off, rfl, hb, hc⟩ := h3 hp
    obtain ⟨xs, hxl, hx⟩ := choose_list (n := l.length) (p := fun i (u : Value) => w.cell? ⟨b, off + i, none⟩ = some u ∧ ∀ hi : i < l.length, R w S u l[i]) (fun i hi => by
      obtain ⟨u, hu, hr⟩ := hc i hi
      exact ⟨u, hu, fun _ => hr⟩)
    refine ⟨xs, hxl, fun i hi u hu => ?_, fun _ => ⟨b, off, rfl, hb, fun j u hu => ?_⟩⟩
    · obtain ⟨hj, rfl⟩ := List.getElem?_eq_some_iff.1 hu
      exact (hx i hj).2 hi
    · obtain ⟨hj, rfl⟩ := List.getElem?_eq_some_iff.1 hu
      exact (hx j hj).1
  · exact ⟨[], by simp; omega, fun i hi => absurd hi (by omega), fun h => absurd h hp⟩
/-- append onto a row of the call's own, at a step of a region that draws. -/
theorem step_append_own {P : Program} {w : World} {ops : Array Oper} {o : Oper} {a : Act} {K : Act → World → Prop} {Q : Exit → Act → World → Prop} {E : Prop} (hgd : o.guard = none) (s x : Operand) (t : TypeId)
    (ho : o.op = .call { callee := .builtin .append, args := #[s, x], argTypes := #[t, t] }) {base : Nat} {e : TypeId} {bytes : Nat} (he : Elem1 P t e bytes) (v : Value) (n : Nat) (xs : List Value) (hs : a.eval s = v) (hown : w.ownsRow base e 1 v n xs)
    (ad : Addr) (m c : Nat) (news : List Value) (hx : a.eval x = .slice (some ad) m c) (hl : news.length = m) (hc : ∀ j u, news[j]? = some u → w.cell? (ad.add j) = some u) (h1 : ∀ u ∈ news, u.oneCell' = true) (hn : n + m < 1000000000000) (hbase : base ≤ w.heap.size)
    (h : ∀ v' w', w'.ownsRow base e 1 v' (n + m) (xs ++ news) → w.grownBy w' v.ownBlock → (v'.ownBlock = v.ownBlock ∨ v'.ownBlock = some w.heap.size) → K (a.put o.dst v') w') :
    if Region.wanted o (yielded ops a.tmps) = true then Oper.wp P o a w K Q else E := by
  have hw : Region.wanted o (yielded ops a.tmps) = true := by simp [Region.wanted, hgd]
  rw [if_pos hw]
  obtain ⟨ht, h64, i, z, hi, hz, hsz, hby, hzs⟩ := he
  obtain ⟨v', w', hr, h2, h3, h4, h5⟩ := run_append_own_at (P := P) w base t o.type e i z 1 bytes ht hi hz hsz hby hzs (by omega) v n xs hown ad m c news (by omega) hc h1 (by unfold maxLen; omega) (by
    have : (n + m) * bytes ≤ 1000000000000 * 64 := Nat.mul_le_mul (by omega) h64
    omega) hbase
  unfold Oper.wp execOp
  simp only [ho, resolve, invoke, builtin, Sem.run_bind, Sem.run_pure, Result.andThen_ok, List.map_toArray, List.map_cons, List.map_nil, hs, hx, hr]
  exact h v' w' h2 h3 h5
end Go.Proofs.Ytdofiipckcfopaa
