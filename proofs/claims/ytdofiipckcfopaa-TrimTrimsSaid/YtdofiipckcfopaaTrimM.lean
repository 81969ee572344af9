/- A question that is made smaller, in memory: plain law. -/
import Derived.Test.YtdofiipckcfopaaTrimD
import Derived.Test.YtdofiipckcfopaaFnDelF
namespace Go.Proofs.Ytdofiipckcfopaa
open Go.RowKit

/-- From w to w' nothing that was there has changed but what D names. -/
structure Ch (D : Nat → Prop) (w w' : World) : Prop where
  os : w'.os = w.os
  tape : w'.tape = w.tape
  output : w'.output = w.output
  size : w.heap.size ≤ w'.heap.size
  block : ∀ b, b < w.heap.size → ¬ D b → w'.heap[b]? = w.heap[b]?
theorem Ch.refl (D : Nat → Prop) (w : World) : Ch D w w := ⟨rfl, rfl, rfl, Nat.le_refl _, fun _ _ _ => rfl⟩
theorem Ch.trans {D : Nat → Prop} {a b c : World} (h : Ch D a b) (k : Ch D b c) : Ch D a c :=
  ⟨k.os.trans h.os, k.tape.trans h.tape, k.output.trans h.output, Nat.le_trans h.size k.size, fun i hi hd => (k.block i (Nat.lt_of_lt_of_le hi h.size) hd).trans (h.block i hi hd)⟩
theorem Ch.imp {D D' : Nat → Prop} {a b : World} (h : Ch D a b) (hd : ∀ i, i < a.heap.size → D i → D' i) : Ch D' a b :=
  ⟨h.os, h.tape, h.output, h.size, fun i hi hn => h.block i hi fun x => hn (hd i hi x)⟩
theorem ch_below {B : Nat} {a b : World} (h : Below B a b) : Ch (fun i => B ≤ i) a b := ⟨h.os, h.tape, h.output, h.size, fun i _ hn => h.block i (by omega)⟩
theorem ch_new {a b : World} (h : Below a.heap.size a b) (D : Nat → Prop) : Ch D a b := (ch_below h).imp fun i hi hd => by omega
theorem ch_grown {a b : World} {row : Option Nat} (h : a.grownBy b row) : Ch (fun i => some i = row) a b := ⟨h.os, h.tape, h.output, h.size, fun i hi hn => h.block i hi hn⟩
theorem ch_set (a : World) (g o : Nat) (v : Value) : Ch (fun i => i = g) a (a.setCell ⟨g, o, none⟩ v) := ⟨rfl, rfl, rfl, by simp, fun i _ hn => Below.heap_setCell _ _ _ _ hn⟩
theorem Ch.below {D : Nat → Prop} {B : Nat} {a b : World} (h : Ch D a b) (hd : ∀ i, D i → B ≤ i) (hB : B ≤ a.heap.size) : Below B a b := ⟨h.os, h.tape, h.output, h.size, fun i hi => h.block i (by omega) fun x => by have := hd i x; omega⟩
theorem Ch.ag {D S : Nat → Prop} {a b : World} (h : Ch D a b) (hs : ∀ i, S i → i < a.heap.size ∧ ¬ D i) : Ag S a b := fun i hi => h.block i (hs i hi).1 (hs i hi).2
theorem Ch.own {D : Nat → Prop} {a b : World} (h : Ch D a b) {base : Nat} {t : TypeId} {sz : Nat} {v : Value} {n : Nat} {xs : List Value} (ho : a.ownsRow base t sz v n xs) (hd : ∀ i, v.ownBlock = some i → ¬ D i) : b.ownsRow base t sz v n xs := by
  have hlt := ho.lt
  obtain ⟨h1, ⟨rfl, h2⟩ | ⟨g, cap, cur, rfl, hbg, hh, hr⟩⟩ := ho
  · exact ⟨h1, .inl ⟨rfl, h2⟩⟩
  · exact ⟨h1, .inr ⟨g, cap, cur, rfl, hbg, (h.block g (hlt g rfl).2 (hd g rfl)).trans hh, hr⟩⟩

def Apart (v v' : Value) : Prop := ∀ b, v.ownBlock = some b → v'.ownBlock = some b → False
theorem Apart.symm {v v' : Value} (h : Apart v v') : Apart v' v := fun b h1 h2 => h b h2 h1
/-- What is made anew, or is as it was. -/
def NewOr (w : World) (v v' : Value) : Prop := ∀ b, v'.ownBlock = some b → v.ownBlock = some b ∨ w.heap.size ≤ b
theorem NewOr.refl (w : World) (v : Value) : NewOr w v v := fun _ h => .inl h
theorem newOr_app {w w' : World} {v v' : Value} (h : v'.ownBlock = v.ownBlock ∨ v'.ownBlock = some w'.heap.size) (hs : w.heap.size ≤ w'.heap.size) : NewOr w v v' := fun b hb => by
  rcases h with h | h
  · rw [h] at hb; exact .inl hb
  · rw [h] at hb; cases hb; exact .inr hs
theorem Apart.new {w : World} {v v' u : Value} (h : Apart v u) (hv : NewOr w v v') (hu : ∀ b, u.ownBlock = some b → b < w.heap.size) : Apart v' u := fun b h1 h2 => by
  rcases hv b h1 with e | e
  · exact h b e h2
  · have := hu b h2; omega
abbrev inW (w : World) (g : Nat) (vC vF vU : Value) : Nat → Prop := fun b => g < b ∧ b < w.heap.size ∧ some b ≠ vC.ownBlock ∧ some b ≠ vF.ownBlock ∧ some b ≠ vU.ownBlock
structure WkAt (w : World) (X : Nat → Prop) (g vars : Nat) (C : Cls) (F U : List Int) (E : Bool) (vC vF vU : Value) (cs : List Value) : Prop where
  hg : w.heap[g]? = some (.cells #[.int .i64 (vars : Int), vC, vF, vU, .bool E] 59 (0, 0))
  oC : w.ownsRow (g + 1) 27 1 vC C.length cs
  oF : w.ownsRow (g + 1) 3 1 vF F.length (F.map (Value.int .i64))
  oU : w.ownsRow (g + 1) 3 1 vU U.length (U.map (Value.int .i64))
  cl : ∀ i (h : i < C.length) u, cs[i]? = some u → RInts w (inW w g vC vF vU) u C[i]
  aCF : Apart vC vF
  aCU : Apart vC vU
  aFU : Apart vF vU
  xg : ¬ X g
  xC : ∀ b, vC.ownBlock = some b → ¬ X b
  xF : ∀ b, vF.ownBlock = some b → ¬ X b
  xU : ∀ b, vU.ownBlock = some b → ¬ X b
  xlt : ∀ b, X b → b < w.heap.size
  xlow : ∀ b, b < g → X b
def Wk (w : World) (X : Nat → Prop) (g vars : Nat) (s : TrS) : Prop := ∃ vC vF vU cs, WkAt w X g vars s.C s.F s.U s.E vC vF vU cs
abbrev FP (g : Nat) (vC vF vU : Value) : Nat → Prop := fun b => b = g ∨ some b = vC.ownBlock ∨ some b = vF.ownBlock ∨ some b = vU.ownBlock
section
variable {w w' : World} {X : Nat → Prop} {g vars : Nat} {C C' : Cls} {F U F' U' : List Int} {E E' : Bool} {vC vF vU vC' vF' vU' : Value} {cs cs' : List Value} {D : Nat → Prop}
theorem WkAt.lt (h : WkAt w X g vars C F U E vC vF vU cs) : g < w.heap.size := (Array.getElem?_eq_some_iff.1 h.hg).1
theorem WkAt.cell (h : WkAt w X g vars C F U E vC vF vU cs) : w.cell? ⟨g, 0, none⟩ = some (.int .i64 (vars : Int)) ∧ w.cell? ⟨g, 1, none⟩ = some vC ∧ w.cell? ⟨g, 2, none⟩ = some vF ∧ w.cell? ⟨g, 3, none⟩ = some vU ∧ w.cell? ⟨g, 4, none⟩ = some (.bool E) := by
  refine ⟨?_, ?_, ?_, ?_, ?_⟩ <;> (rw [cell_of_row _ _ _ _ _ _ h.hg]; rfl)
theorem WkAt.frozen (h : WkAt w X g vars C F U E vC vF vU cs) (o : Nat) : w.frozen? ⟨g, o, none⟩ = false := frozen_of_row w g o _ _ h.hg
theorem WkAt.xs (h : WkAt w X g vars C F U E vC vF vU cs) : ∀ b, FP g vC vF vU b → ¬ X b := by
  rintro b (rfl | hb | hb | hb)
  · exact h.xg
  · exact h.xC b hb.symm
  · exact h.xF b hb.symm
  · exact h.xU b hb.symm
/-- A clause that was read reads on. -/
theorem inner_up (hch : Ch D w w') (hd : ∀ b, b < w.heap.size → D b → FP g vC vF vU b) (nC : NewOr w vC vC') (nF : NewOr w vF vF') (nU : NewOr w vU vU') {u : Value} {c : List Int} (h : RInts w (inW w g vC vF vU) u c) : RInts w' (inW w' g vC' vF' vU') u c := by
  refine RInts.stable _ _ _ _ _ _ h (hch.ag ?_) ?_
  · rintro b ⟨h1, h2, h3, h4, h5⟩
    refine ⟨h2, fun x => ?_⟩
    rcases hd b h2 x with e | e | e | e
    · omega
    · exact h3 e
    · exact h4 e
    · exact h5 e
  · rintro b ⟨h1, h2, h3, h4, h5⟩
    refine ⟨h1, Nat.lt_of_lt_of_le h2 hch.size, fun e => ?_, fun e => ?_, fun e => ?_⟩
    · rcases nC b e.symm with x | x
      · exact h3 x.symm
      · omega
    · rcases nF b e.symm with x | x
      · exact h4 x.symm
      · omega
    · rcases nU b e.symm with x | x
      · exact h5 x.symm
      · omega
/-- The same question in a later world. -/
theorem WkAt.to (h : WkAt w X g vars C F U E vC vF vU cs) (hch : Ch D w w') (hg : w'.heap[g]? = some (.cells #[.int .i64 (vars : Int), vC', vF', vU', .bool E'] 59 (0, 0)))
    (oC : w'.ownsRow (g + 1) 27 1 vC' C'.length cs') (oF : w'.ownsRow (g + 1) 3 1 vF' F'.length (F'.map (Value.int .i64))) (oU : w'.ownsRow (g + 1) 3 1 vU' U'.length (U'.map (Value.int .i64)))
    (cl : ∀ i (h : i < C'.length) u, cs'[i]? = some u → RInts w' (inW w' g vC' vF' vU') u C'[i]) (nC : NewOr w vC vC') (nF : NewOr w vF vF') (nU : NewOr w vU vU') (aCF : Apart vC' vF') (aCU : Apart vC' vU') (aFU : Apart vF' vU') :
    WkAt w' X g vars C' F' U' E' vC' vF' vU' cs' := by
  have hx : ∀ {v v' : Value}, NewOr w v v' → (∀ b, v.ownBlock = some b → ¬ X b) → ∀ b, v'.ownBlock = some b → ¬ X b := fun hn hv b hb => by
    rcases hn b hb with e | e
    · exact hv b e
    · intro x; have := h.xlt b x; omega
  exact ⟨hg, oC, oF, oU, cl, aCF, aCU, aFU, h.xg, hx nC h.xC, hx nF h.xF, hx nU h.xU, fun b hb => Nat.lt_of_lt_of_le (h.xlt b hb) hch.size, h.xlow⟩
theorem WkAt.ltC (h : WkAt w X g vars C F U E vC vF vU cs) : (∀ b, vC.ownBlock = some b → b < w.heap.size) ∧ (∀ b, vF.ownBlock = some b → b < w.heap.size) ∧ (∀ b, vU.ownBlock = some b → b < w.heap.size) :=
  ⟨fun b hb => (h.oC.lt b hb).2, fun b hb => (h.oF.lt b hb).2, fun b hb => (h.oU.lt b hb).2⟩
/-- Nothing of it has changed. -/
theorem WkAt.keep (h : WkAt w X g vars C F U E vC vF vU cs) (hb : Below w.heap.size w w') : WkAt w' X g vars C F U E vC vF vU cs := by
  have hch := ch_new hb (fun _ => False)
  exact h.to hch ((hch.block g h.lt (fun x => x)).trans h.hg) (hch.own h.oC fun _ _ x => x) (hch.own h.oF fun _ _ x => x) (hch.own h.oU fun _ _ x => x)
    (fun i hi u hu => inner_up hch (fun _ _ x => x.elim) (.refl _ _) (.refl _ _) (.refl _ _) (h.cl i hi u hu)) (.refl _ _) (.refl _ _) (.refl _ _) h.aCF h.aCU h.aFU
/-- The clauses as a row of rows. -/
theorem WkAt.reads (h : WkAt w X g vars C F U E vC vF vU cs) : RIntss w (Lt w.heap.size) vC C :=
  reads_of_own h.oC rfl (fun b hb => (h.oC.lt b hb).2) fun i hi u hu => RInts.stable.sub (h.cl i hi u hu) fun b hb => hb.2.1
/-- The clauses are another row. -/
theorem WkAt.setC (h : WkAt w X g vars C F U E vC vF vU cs) (o1 : w.ownsRow (g + 1) 27 1 vC' C'.length cs') (cl : ∀ i (h : i < C'.length) u, cs'[i]? = some u → RInts w (inW w g vC' vF vU) u C'[i])
    (aF : Apart vC' vF) (aU : Apart vC' vU) (hx : ∀ b, vC'.ownBlock = some b → ¬ X b) : WkAt (w.setCell ⟨g, 1, none⟩ vC') X g vars C' F U E vC' vF vU cs' := by
  have hch := ch_set w g 1 vC'
  have hne : ∀ {t sz v n xs}, w.ownsRow (g + 1) t sz v n xs → ∀ i, v.ownBlock = some i → ¬ i = g := fun ho i hi e => by have := (ho.lt i hi).1; omega
  refine ⟨by rw [heap_setCell_same w g 1 _ _ vC' h.hg]; rfl, hch.own o1 (hne o1), hch.own h.oF (hne h.oF), hch.own h.oU (hne h.oU), fun i hi u hu => ?_, aF, aU, h.aFU, h.xg, hx, h.xF, h.xU, fun b hb => by simpa using h.xlt b hb, h.xlow⟩
  exact inner_up hch (fun _ _ x => .inl x) (.refl _ _) (.refl _ _) (.refl _ _) (cl i hi u hu)
end
end Go.Proofs.Ytdofiipckcfopaa
