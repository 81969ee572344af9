/- A question that is made smaller, in memory: plain law. / A question that is made smaller, in memory: what each change makes of it. Plain law. / What the small functions of the layer trim compute: at, isAlways, within, and slices.IndexFunc and ContainsFunc on rows of rows. / .. -/
import Derived.Deep.RegionLawGrows
import Derived.Test.YtdofiipckcfopaaZa1
namespace Go.Proofs.Ytdofiipckcfopaa
open Go.RowKit

/-- From w to w' nothing that was there has changed but what D names. -/
structure Ch (D : Nat → Prop) (w w' : World) : Prop where
  os : w'.os = w.os
  tape : w'.tape = w.tape
  output : w'.output = w.output
  size : w.heap.size ≤ w'.heap.size
  block : ∀ b, b < w.heap.size → ¬ D b → w'.heap[b]? = w.heap[b]?
theorem Ch.refl (D : Nat → Prop) (w : World) : Ch D w w := ⟨rfl, rfl, rfl, Nat.le_refl _, fun _ _ _ => rfl⟩
theorem Ch.trans {D : Nat → Prop} {a b c : World} (h : Ch D a b) (k : Ch D b c) : Ch D a c :=
  ⟨k.os.trans h.os, k.tape.trans h.tape, k.output.trans h.output, Nat.le_trans h.size k.size, fun i hi hd => (k.block i (Nat.lt_of_lt_of_le hi h.size) hd).trans (h.block i hi hd)⟩
theorem Ch.imp {D D' : Nat → Prop} {a b : World} (h : Ch D a b) (hd : ∀ i, i < a.heap.size → D i → D' i) : Ch D' a b :=
  ⟨h.os, h.tape, h.output, h.size, fun i hi hn => h.block i hi fun x => hn (hd i hi x)⟩
theorem ch_below {B : Nat} {a b : World} (h : Below B a b) : Ch (fun i => B ≤ i) a b := ⟨h.os, h.tape, h.output, h.size, fun i _ hn => h.block i (by omega)⟩
theorem ch_new {a b : World} (h : Below a.heap.size a b) (D : Nat → Prop) : Ch D a b := (ch_below h).imp fun i hi hd => by omega
theorem ch_grown {a b : World} {row : Option Nat} (h : a.grownBy b row) : Ch (fun i => some i = row) a b := ⟨h.os, h.tape, h.output, h.size, fun i hi hn => h.block i hi hn⟩
theorem ch_set (a : World) (g o : Nat) (v : Value) : Ch (fun i => i = g) a (a.setCell ⟨g, o, none⟩ v) := ⟨rfl, rfl, rfl, by simp, fun i _ hn => Below.heap_setCell _ _ _ _ hn⟩
theorem Ch.below {D : Nat → Prop} {B : Nat} {a b : World} (h : Ch D a b) (hd : ∀ i, D i → B ≤ i) (hB : B ≤ a.heap.size) : Below B a b := ⟨h.os, h.tape, h.output, h.size, fun i hi => h.block i (by omega) fun x => by have := hd i x; omega⟩
theorem Ch.ag {D S : Nat → Prop} {a b : World} (h : Ch D a b) (hs : ∀ i, S i → i < a.heap.size ∧ ¬ D i) : Ag S a b := fun i hi => h.block i (hs i hi).1 (hs i hi).2
theorem Ch.own {D : Nat → Prop} {a b : World} (h : Ch D a b) {base : Nat} {t : TypeId} {sz : Nat} {v : Value} {n : Nat} {xs : List Value} (ho : a.ownsRow base t sz v n xs) (hd : ∀ i, v.ownBlock = some i → ¬ D i) : b.ownsRow base t sz v n xs := by
  have hlt := ho.lt
  obtain ⟨h1, ⟨rfl, h2⟩ | ⟨g, cap, cur, rfl, hbg, hh, hr⟩⟩ := ho
  · exact ⟨h1, .inl ⟨rfl, h2⟩⟩
  · exact ⟨h1, .inr ⟨g, cap, cur, rfl, hbg, (h.block g (hlt g rfl).2 (hd g rfl)).trans hh, hr⟩⟩

def Apart (v v' : Value) : Prop := ∀ b, v.ownBlock = some b → v'.ownBlock = some b → False
theorem Apart.symm {v v' : Value} (h : Apart v v') : Apart v' v := fun b h1 h2 => h b h2 h1
/-- What is made anew, or is as it was. -/
def NewOr (w : World) (v v' : Value) : Prop := ∀ b, v'.ownBlock = some b → v.ownBlock = some b ∨ w.heap.size ≤ b
theorem NewOr.refl (w : World) (v : Value) : NewOr w v v := fun _ h => .inl h
theorem newOr_app {w w' : World} {v v' : Value} (h : v'.ownBlock = v.ownBlock ∨ v'.ownBlock = some w'.heap.size) (hs : w.heap.size ≤ w'.heap.size) : NewOr w v v' := fun b hb => by
  rcases h with h | h
  · rw [h] at hb; exact .inl hb
  · rw [h] at hb; cases hb; exact .inr hs
theorem Apart.new {w : World} {v v' u : Value} (h : Apart v u) (hv : NewOr w v v') (hu : ∀ b, u.ownBlock = some b → b < w.heap.size) : Apart v' u := fun b h1 h2 => by
  rcases hv b h1 with e | e
  · exact h b e h2
  · have := hu b h2; omega
abbrev inW (w : World) (g : Nat) (vC vF vU : Value) : Nat → Prop := fun b => g < b ∧ b < w.heap.size ∧ some b ≠ vC.ownBlock ∧ some b ≠ vF.ownBlock ∧ some b ≠ vU.ownBlock
structure WkAt (w : World) (X : Nat → Prop) (g vars : Nat) (C : Cls) (F U : List Int) (E : Bool) (vC vF vU : Value) (cs : List Value) : Prop where
  hg : w.heap[g]? = some (.cells #[.int .i64 (vars : Int), vC, vF, vU, .bool E] 59 (0, 0))
  oC : w.ownsRow (g + 1) 27 1 vC C.length cs
  oF : w.ownsRow (g + 1) 3 1 vF F.length (F.map (Value.int .i64))
  oU : w.ownsRow (g + 1) 3 1 vU U.length (U.map (Value.int .i64))
  cl : ∀ i (h : i < C.length) u, cs[i]? = some u → RInts w (inW w g vC vF vU) u C[i]
  aCF : Apart vC vF
  aCU : Apart vC vU
  aFU : Apart vF vU
  xg : ¬ X g
  xC : ∀ b, vC.ownBlock = some b → ¬ X b
  xF : ∀ b, vF.ownBlock = some b → ¬ X b
  xU : ∀ b, vU.ownBlock = some b → ¬ X b
  xlt : ∀ b, X b → b < w.heap.size
  xlow : ∀ b, b < g → X b
def Wk (w : World) (X : Nat → Prop) (g vars : Nat) (s : TrS) : Prop := ∃ vC vF vU cs, WkAt w X g vars s.C s.F s.U s.E vC vF vU cs
abbrev FP (g : Nat) (vC vF vU : Value) : Nat → Prop := fun b => b = g ∨ some b = vC.ownBlock ∨ some b = vF.ownBlock ∨ some b = vU.ownBlock
section
variable {w w' : World} {X : Nat → Prop} {g vars : Nat} {C C' : Cls} {F U F' U' : List Int} {E E' : Bool} {vC vF vU vC' vF' vU' : Value} {cs cs' : List Value} {D : Nat → Prop}
theorem WkAt.lt (h : WkAt w X g vars C F U E vC vF vU cs) : g < w.heap.size := (Array.getElem?_eq_some_iff.1 h.hg).1
theorem WkAt.cell (h : WkAt w X g vars C F U E vC vF vU cs) : w.cell? ⟨g, 0, none⟩ = some (.int .i64 (vars : Int)) ∧ w.cell? ⟨g, 1, none⟩ = some vC ∧ w.cell? ⟨g, 2, none⟩ = some vF ∧ w.cell? ⟨g, 3, none⟩ = some vU ∧ w.cell? ⟨g, 4, none⟩ = some (.bool E) := by
  refine ⟨?_, ?_, ?_, ?_, ?_⟩ <;> (rw [cell_of_row _ _ _ _ _ _ h.hg]; rfl)
theorem WkAt.frozen (h : WkAt w X g vars C F U E vC vF vU cs) (o : Nat) : w.frozen? ⟨g, o, none⟩ = false := frozen_of_row w g o _ _ h.hg
theorem WkAt.xs (h : WkAt w X g vars C F U E vC vF vU cs) : ∀ b, FP g vC vF vU b → ¬ X b := by
  rintro b (rfl | hb | hb | hb)
  · exact h.xg
  · exact h.xC b hb.symm
  · exact h.xF b hb.symm
  · exact h.xU b hb.symm
/-- A clause that was read reads on. -/
theorem inner_up (hch : Ch D w w') (hd : ∀ b, b < w.heap.size → D b → FP g vC vF vU b) (nC : NewOr w vC vC') (nF : NewOr w vF vF') (nU : NewOr w vU vU') {u : Value} {c : List Int} (h : RInts w (inW w g vC vF vU) u c) : RInts w' (inW w' g vC' vF' vU') u c := by
  refine RInts.stable _ _ _ _ _ _ h (hch.ag ?_) ?_
  · rintro b ⟨h1, h2, h3, h4, h5⟩
    refine ⟨h2, fun x => ?_⟩
    rcases hd b h2 x with e | e | e | e
    · omega
    · exact h3 e
    · exact h4 e
    · exact h5 e
  · rintro b ⟨h1, h2, h3, h4, h5⟩
    refine ⟨h1, Nat.lt_of_lt_of_le h2 hch.size, fun e => ?_, fun e => ?_, fun e => ?_⟩
    · rcases nC b e.symm with x | x
      · exact h3 x.symm
      · omega
    · rcases nF b e.symm with x | x
      · exact h4 x.symm
      · omega
    · rcases nU b e.symm with x | x
      · exact h5 x.symm
      · omega
/-- The same question in a later world. -/
theorem WkAt.to (h : WkAt w X g vars C F U E vC vF vU cs) (hch : Ch D w w') (hg : w'.heap[g]? = some (.cells #[.int .i64 (vars : Int), vC', vF', vU', .bool E'] 59 (0, 0)))
    (oC : w'.ownsRow (g + 1) 27 1 vC' C'.length cs') (oF : w'.ownsRow (g + 1) 3 1 vF' F'.length (F'.map (Value.int .i64))) (oU : w'.ownsRow (g + 1) 3 1 vU' U'.length (U'.map (Value.int .i64)))
    (cl : ∀ i (h : i < C'.length) u, cs'[i]? = some u → RInts w' (inW w' g vC' vF' vU') u C'[i]) (nC : NewOr w vC vC') (nF : NewOr w vF vF') (nU : NewOr w vU vU') (aCF : Apart vC' vF') (aCU : Apart vC' vU') (aFU : Apart vF' vU') :
    WkAt w' X g vars C' F' U' E' vC' vF' vU' cs' := by
  have hx : ∀ {v v' : Value}, NewOr w v v' → (∀ b, v.ownBlock = some b → ¬ X b) → ∀ b, v'.ownBlock = some b → ¬ X b := fun hn hv b hb => by
    rcases hn b hb with e | e
    · exact hv b e
    · intro x; have := h.xlt b x; omega
  exact ⟨hg, oC, oF, oU, cl, aCF, aCU, aFU, h.xg, hx nC h.xC, hx nF h.xF, hx nU h.xU, fun b hb => Nat.lt_of_lt_of_le (h.xlt b hb) hch.size, h.xlow⟩
theorem WkAt.ltC (h : WkAt w X g vars C F U E vC vF vU cs) : (∀ b, vC.ownBlock = some b → b < w.heap.size) ∧ (∀ b, vF.ownBlock = some b → b < w.heap.size) ∧ (∀ b, vU.ownBlock = some b → b < w.heap.size) :=
  ⟨fun b hb => (h.oC.lt b hb).2, fun b hb => (h.oF.lt b hb).2, fun b hb => (h.oU.lt b hb).2⟩
/-- Nothing of it has changed. -/
theorem WkAt.keep (h : WkAt w X g vars C F U E vC vF vU cs) (hb : Below w.heap.size w w') : WkAt w' X g vars C F U E vC vF vU cs := by
  have hch := ch_new hb (fun _ => False)
  exact h.to hch ((hch.block g h.lt (fun x => x)).trans h.hg) (hch.own h.oC fun _ _ x => x) (hch.own h.oF fun _ _ x => x) (hch.own h.oU fun _ _ x => x)
    (fun i hi u hu => inner_up hch (fun _ _ x => x.elim) (.refl _ _) (.refl _ _) (.refl _ _) (h.cl i hi u hu)) (.refl _ _) (.refl _ _) (.refl _ _) h.aCF h.aCU h.aFU
/-- The clauses as a row of rows. -/
theorem WkAt.reads (h : WkAt w X g vars C F U E vC vF vU cs) : RIntss w (Lt w.heap.size) vC C :=
  reads_of_own h.oC rfl (fun b hb => (h.oC.lt b hb).2) fun i hi u hu => RInts.stable.sub (h.cl i hi u hu) fun b hb => hb.2.1
/-- The clauses are another row. -/
theorem WkAt.setC (h : WkAt w X g vars C F U E vC vF vU cs) (o1 : w.ownsRow (g + 1) 27 1 vC' C'.length cs') (cl : ∀ i (h : i < C'.length) u, cs'[i]? = some u → RInts w (inW w g vC' vF vU) u C'[i])
    (aF : Apart vC' vF) (aU : Apart vC' vU) (hx : ∀ b, vC'.ownBlock = some b → ¬ X b) : WkAt (w.setCell ⟨g, 1, none⟩ vC') X g vars C' F U E vC' vF vU cs' := by
  have hch := ch_set w g 1 vC'
  have hne : ∀ {t sz v n xs}, w.ownsRow (g + 1) t sz v n xs → ∀ i, v.ownBlock = some i → ¬ i = g := fun ho i hi e => by have := (ho.lt i hi).1; omega
  refine ⟨by rw [heap_setCell_same w g 1 _ _ vC' h.hg]; rfl, hch.own o1 (hne o1), hch.own h.oF (hne h.oF), hch.own h.oU (hne h.oU), fun i hi u hu => ?_, aF, aU, h.aFU, h.xg, hx, h.xF, h.xU, fun b hb => by simpa using h.xlt b hb, h.xlow⟩
  exact inner_up hch (fun _ _ x => .inl x) (.refl _ _) (.refl _ _) (.refl _ _) (cl i hi u hu)
end
end Go.Proofs.Ytdofiipckcfopaa

namespace Go.Proofs.Ytdofiipckcfopaa
open Go.RowKit

section
variable {w w' : World} {X : Nat → Prop} {g vars : Nat} {C C' : Cls} {F U F' U' : List Int} {E E' : Bool} {vC vF vU vC' vF' vU' v1 : Value} {cs cs' : List Value}
theorem WkAt.shapeC (h : WkAt w X g vars C F U E vC vF vU cs) (hl : 0 < C.length) : ∃ gC cap, vC = .slice (some ⟨gC, 0, none⟩) C.length cap := by
  obtain ⟨_, ⟨_, h0⟩ | ⟨gC, cap, cur, rfl, _⟩⟩ := h.oC
  · omega
  · exact ⟨gC, cap, rfl⟩
theorem WkAt.csl (h : WkAt w X g vars C F U E vC vF vU cs) : cs.length = C.length := by simpa using h.oC.1
theorem WkAt.gne (h : WkAt w X g vars C F U E vC vF vU cs) : (∀ b, vC.ownBlock = some b → g < b) ∧ (∀ b, vF.ownBlock = some b → g < b) ∧ (∀ b, vU.ownBlock = some b → g < b) :=
  ⟨fun b hb => by have := (h.oC.lt b hb).1; omega, fun b hb => by have := (h.oF.lt b hb).1; omega, fun b hb => by have := (h.oU.lt b hb).1; omega⟩
/-- While one of its rows grows, the question itself stays. -/
theorem WkAt.midg (h : WkAt w X g vars C F U E vC vF vU cs) {row : Option Nat} (hg1 : w.grownBy w' row) (hr : row ≠ some g) : w'.heap[g]? = some (.cells #[.int .i64 (vars : Int), vC, vF, vU, .bool E] 59 (0, 0)) :=
  (hg1.block g h.lt fun e => hr e.symm).trans h.hg
theorem WkAt.pushF (h : WkAt w X g vars C F U E vC vF vU cs) {n : Int} (o1 : w'.ownsRow (g + 1) 3 1 v1 (F.length + 1) (F.map (Value.int .i64) ++ [.int .i64 n])) (hg1 : w.grownBy w' vF.ownBlock) (hat : v1.ownBlock = vF.ownBlock ∨ v1.ownBlock = some w.heap.size) :
    WkAt (w'.setCell ⟨g, 2, none⟩ v1) X g vars C (F ++ [n]) U E vC v1 vU cs := by
  have hne : ∀ {t sz v n xs}, w'.ownsRow (g + 1) t sz v n xs → ∀ i, v.ownBlock = some i → ¬ i = g := fun ho i hi e => by have := (ho.lt i hi).1; omega
  have hch := (ch_grown hg1).imp (D' := FP g vC vF vU) fun i _ e => .inr (.inr (.inl e))
  have hch2 := hch.trans ((ch_set w' g 2 v1).imp (D' := FP g vC vF vU) fun i _ e => .inl e)
  have hn := newOr_app hat (Nat.le_refl _)
  have hmid := h.midg hg1 fun e => by have := h.gne.2.1 g e; omega
  have h1 := (ch_grown hg1).own h.oC (fun i hi e => h.aCF i hi e.symm)
  have h2 := (ch_grown hg1).own h.oU (fun i hi e => h.aFU i e.symm hi)
  refine h.to hch2 (by rw [heap_setCell_same w' g 2 _ _ v1 hmid]; rfl) ((ch_set w' g 2 v1).own h1 (hne h1)) ?_ ((ch_set w' g 2 v1).own h2 (hne h2)) (fun i hi u hu => inner_up hch2 (fun _ _ x => x) (.refl _ _) hn (.refl _ _) (h.cl i hi u hu)) (.refl _ _) hn (.refl _ _) (h.aCF.symm.new hn h.ltC.1).symm h.aCU (h.aFU.new hn h.ltC.2.2)
  rw [List.length_append, List.map_append]
  exact (ch_set w' g 2 v1).own o1 (hne o1)
theorem WkAt.pushU (h : WkAt w X g vars C F U E vC vF vU cs) {n : Int} (o1 : w'.ownsRow (g + 1) 3 1 v1 (U.length + 1) (U.map (Value.int .i64) ++ [.int .i64 n])) (hg1 : w.grownBy w' vU.ownBlock) (hat : v1.ownBlock = vU.ownBlock ∨ v1.ownBlock = some w.heap.size) :
    WkAt (w'.setCell ⟨g, 3, none⟩ v1) X g vars C F (U ++ [n]) E vC vF v1 cs := by
  have hne : ∀ {t sz v n xs}, w'.ownsRow (g + 1) t sz v n xs → ∀ i, v.ownBlock = some i → ¬ i = g := fun ho i hi e => by have := (ho.lt i hi).1; omega
  have hch := (ch_grown hg1).imp (D' := FP g vC vF vU) fun i _ e => .inr (.inr (.inr e))
  have hch2 := hch.trans ((ch_set w' g 3 v1).imp (D' := FP g vC vF vU) fun i _ e => .inl e)
  have hn := newOr_app hat (Nat.le_refl _)
  have hmid := h.midg hg1 fun e => by have := h.gne.2.2 g e; omega
  have h1 := (ch_grown hg1).own h.oC (fun i hi e => h.aCU i hi e.symm)
  have h2 := (ch_grown hg1).own h.oF (fun i hi e => h.aFU i hi e.symm)
  refine h.to hch2 (by rw [heap_setCell_same w' g 3 _ _ v1 hmid]; rfl) ((ch_set w' g 3 v1).own h1 (hne h1)) ((ch_set w' g 3 v1).own h2 (hne h2)) ?_ (fun i hi u hu => inner_up hch2 (fun _ _ x => x) (.refl _ _) (.refl _ _) hn (h.cl i hi u hu)) (.refl _ _) (.refl _ _) hn h.aCF (h.aCU.symm.new hn h.ltC.1).symm (h.aFU.symm.new hn h.ltC.2.1).symm
  rw [List.length_append, List.map_append]
  exact (ch_set w' g 3 v1).own o1 (hne o1)
theorem WkAt.setE (h : WkAt w X g vars C F U E vC vF vU cs) (b : Bool) : WkAt (w.setCell ⟨g, 4, none⟩ (.bool b)) X g vars C F U b vC vF vU cs := by
  have hch := ch_set w g 4 (.bool b)
  have hne : ∀ {t sz v n xs}, w.ownsRow (g + 1) t sz v n xs → ∀ i, v.ownBlock = some i → ¬ i = g := fun ho i hi e => by have := (ho.lt i hi).1; omega
  exact h.to hch (by rw [heap_setCell_same w g 4 _ _ (.bool b) h.hg]; rfl) (hch.own h.oC (hne h.oC)) (hch.own h.oF (hne h.oF)) (hch.own h.oU (hne h.oU)) (fun i hi u hu => inner_up hch (fun _ _ x => .inl x) (.refl _ _) (.refl _ _) (.refl _ _) (h.cl i hi u hu)) (.refl _ _) (.refl _ _) (.refl _ _) h.aCF h.aCU h.aFU
/-- One clause is another one. -/
theorem WkAt.store {gC cap n : Nat} (h : WkAt w X g vars C F U E (.slice (some ⟨gC, 0, none⟩) n cap) vF vU cs) {i : Nat} {u : Value} {c : List Int} (hr : RInts w (inW w g (.slice (some ⟨gC, 0, none⟩) n cap) vF vU) u c) :
    WkAt (w.setCell ⟨gC, i, none⟩ u) X g vars (C.set i c) F U E (.slice (some ⟨gC, 0, none⟩) n cap) vF vU (cs.set i u) := by
  have hch := ch_set w gC i u
  have hD : ∀ b, b < w.heap.size → b = gC → FP g (.slice (some ⟨gC, 0, none⟩) n cap) vF vU b := fun b _ e => .inr (.inl (by rw [e]; rfl))
  have hn : n = C.length := by
    obtain ⟨_, ⟨e, _⟩ | ⟨_, _, _, e, _⟩⟩ := h.oC
    · cases e
    · cases e; rfl
  subst hn
  refine h.to hch ?_ ?_ (hch.own h.oF fun b hb e => h.aCF gC rfl (e ▸ hb)) (hch.own h.oU fun b hb e => h.aCU gC rfl (e ▸ hb)) (fun j hj u' hu => ?_) (.refl _ _) (.refl _ _) (.refl _ _) h.aCF h.aCU h.aFU
  · exact (hch.block g h.lt fun e => by have := h.gne.1 gC rfl; omega).trans h.hg
  · rw [List.length_set]; exact own_set h.oC i u
  · rw [List.getElem_set]
    rw [List.getElem?_set] at hu
    split at hu
    · next e =>
      rw [if_pos e]
      split at hu
      · cases hu; exact inner_up hch hD (.refl _ _) (.refl _ _) (.refl _ _) hr
      · cases hu
    · next e => rw [if_neg e]; exact inner_up hch hD (.refl _ _) (.refl _ _) (.refl _ _) (h.cl j (by simpa using hj) u' hu)
/-- One clause goes. -/
theorem WkAt.drop {gC cap n : Nat} (h : WkAt w X g vars C F U E (.slice (some ⟨gC, 0, none⟩) n cap) vF vU cs) {i : Nat} (hi : i < C.length) (o1 : w'.ownsRow (g + 1) 27 1 (.slice (some ⟨gC, 0, none⟩) (n - 1) cap) (n - 1) (cs.eraseIdx i)) (hg1 : w.grownBy w' (some gC)) :
    WkAt (w'.setCell ⟨g, 1, none⟩ (.slice (some ⟨gC, 0, none⟩) (n - 1) cap)) X g vars (C.eraseIdx i) F U E (.slice (some ⟨gC, 0, none⟩) (n - 1) cap) vF vU (cs.eraseIdx i) := by
  have hn : n = C.length := by
    obtain ⟨_, ⟨e, _⟩ | ⟨_, _, _, e, _⟩⟩ := h.oC
    · cases e
    · cases e; rfl
  subst hn
  have hne : ∀ {t sz v n xs}, w'.ownsRow (g + 1) t sz v n xs → ∀ i, v.ownBlock = some i → ¬ i = g := fun ho i hi e => by have := (ho.lt i hi).1; omega
  have hch := (ch_grown hg1).imp (D' := FP g (.slice (some ⟨gC, 0, none⟩) C.length cap) vF vU) fun i _ e => .inr (.inl e)
  have hch2 := hch.trans ((ch_set w' g 1 (.slice (some ⟨gC, 0, none⟩) (C.length - 1) cap)).imp (D' := FP g (.slice (some ⟨gC, 0, none⟩) C.length cap) vF vU) fun i _ e => .inl e)
  have hmid := h.midg hg1 fun e => by cases e; have := h.gne.1 g rfl; omega
  have h1 := (ch_grown hg1).own h.oF (fun i hi e => by cases e; exact h.aCF gC rfl hi)
  have h2 := (ch_grown hg1).own h.oU (fun i hi e => by cases e; exact h.aCU gC rfl hi)
  have nC : NewOr w (.slice (some ⟨gC, 0, none⟩) C.length cap) (.slice (some ⟨gC, 0, none⟩) (C.length - 1) cap) := fun b hb => .inl hb
  have hel : (C.eraseIdx i).length = C.length - 1 := List.length_eraseIdx_of_lt hi
  refine h.to hch2 (by rw [heap_setCell_same w' g 1 _ _ _ hmid]; rfl) ?_ ((ch_set w' g 1 _).own h1 (hne h1)) ((ch_set w' g 1 _).own h2 (hne h2)) (fun j hj u hu => ?_) nC (.refl _ _) (.refl _ _) (fun b hb => h.aCF b hb) (fun b hb => h.aCU b hb) h.aFU
  · rw [hel]; exact (ch_set w' g 1 _).own o1 (hne o1)
  · rw [List.getElem_eraseIdx]
    rw [List.getElem?_eraseIdx] at hu
    split at hu
    · next e => rw [dif_pos e]; exact inner_up hch2 (fun _ _ x => x) nC (.refl _ _) (.refl _ _) (h.cl j (by omega) u hu)
    · next e => rw [dif_neg e]; exact inner_up hch2 (fun _ _ x => x) nC (.refl _ _) (.refl _ _) (h.cl (j + 1) (by omega) u hu)
end
end Go.Proofs.Ytdofiipckcfopaa

namespace Go.Proofs.Ytdofiipckcfopaa
open Go.RowKit

theorem RSl.take_ {α : Type} {R : Rd α} {w : World} {S : Nat → Prop} {A : Option Addr} {n c k : Nat} {l : List α} (h : RSl R w S (.slice A n c) l) (hk : k ≤ n) : RSl R w S (.slice A k c) (l.take k) := by
  obtain ⟨A', c', e, h1, h2, h3⟩ := h
  cases e
  have hl : (l.take k).length = k := by simp; omega
  refine ⟨A, c, by rw [hl], by omega, h2, fun hp => ?_⟩
  obtain ⟨b, off, e, hb, hc⟩ := h3 (by omega)
  exact ⟨b, off, e, hb, fun j hj => by rw [List.getElem_take]; exact hc j (by omega)⟩
theorem RSl.cap_ {α : Type} {R : Rd α} {w : World} {S : Nat → Prop} {A : Option Addr} {n c : Nat} {l : List α} (h : RSl R w S (.slice A n c) l) : n ≤ c := by
  obtain ⟨A', c', e, h1, h2, h3⟩ := h
  cases e; exact h1
def optI (o : Option Nat) : Int := match o with | some k => k | none => -1
theorem hid_first {α : Type} (f : Nat → Option α) : Hid (firstN f 0 = none) := rfl
set_option maxHeartbeats 400000 in
theorem trimAt_any (s : Value) (l : List Int) (w : World) {B : Nat} (hs : RInts w (Lt B) s l) :
    Calls Try.prog 54 #[s] w fun e w' => e = .returned (.int .i64 (optI (dupK l))) ∧ w = w' := by
  have Hs := Lib.hid hs
  obtain ⟨A, c, rfl, hm, hat⟩ := hs.open_
  have Hat := Lib.hid hat; clear hat
  go_enter Try.func54, Try.ntmps54
  go_wp2
  go_loop [7] (fun sv => ∃ k : Nat, k ≤ (l).length ∧ sv = .int .i64 k ∧ Hid (firstN (dupAt l) k = none)) (fun sv => (l).length - (intOf sv).toNat)
  case atStart => exact ⟨0, Nat.zero_le _, rfl, hid_first _⟩
  case round =>
    obtain ⟨k, hkle, rfl, hkinv⟩ := hrel
    by_cases hklt : k < (l).length
    · obtain ⟨bk, offk, uk, rfl, hbk, hcellk, huk⟩ := Hat.out.lt_ hklt
      obtain rfl := huk
      have Ht := Lib.hid (Hs.out.take_ (k := k) (by omega))
      have hkc : k ≤ c := by have := Hs.out.cap_; omega
      cases hx : hasB (l.take k) l[k] with
      | true =>
        have Hk := Lib.hid (show dupK l = some k from firstN_hit hkinv.out (by rw [dupAt, getD_at hklt, hx]; rfl) hklt)
        have Hx := Lib.hid hx; clear hx
        go_wp2_with (go_at_call 73; refine (Contains_any _ _ (l.take k) _ Ht.out).mono ?_; rintro e w1 ⟨rfl, rfl⟩; rw [Hx.out])
        go_ret
        exact ⟨ret_int (by rw [Hk.out]; rfl), rfl⟩
      | false =>
        have Hk := Lib.hid (show firstN (dupAt l) (k + 1) = none from firstN_go hkinv.out (by rw [dupAt, getD_at hklt, hx]; rfl))
        have Hx := Lib.hid hx; clear hx
        go_wp2_with (go_at_call 73; refine (Contains_any _ _ (l.take k) _ Ht.out).mono ?_; rintro e w1 ⟨rfl, rfl⟩; rw [Hx.out])
        go_round
        case rel => exact ⟨k + 1, by omega, by go_num, Hk⟩
        case measure => simp [intOf]; omega
    · obtain rfl : k = (l).length := by omega
      have Hk := Lib.hid (show optI (dupK l) = -1 by rw [dupK, hkinv.out]; rfl)
      go_wp2
      go_ret
      exact ⟨ret_int Hk.out.symm, rfl⟩

def negW (n : Int) : Int := wrap64 (-n)
theorem negW_eq {n : Int} (h1 : -9223372036854775807 ≤ n) (h2 : n ≤ 9223372036854775807) : negW n = -n := IntWalk.wrap64_in (-n) (by omega)
set_option maxHeartbeats 400000 in
theorem alwFn_any (x : Int) (b : Nat) (s : Value) (l : List Int) (w : World) {B : Nat} (hc : w.cell? ⟨b, 0, none⟩ = some s) (hs : RInts w (Lt B) s l) :
    Calls Try.prog 75 #[.int .i64 x, .pointer (some ⟨b, 0, none⟩)] w fun e w' => e = .returned (.bool (hasB l (negW x))) ∧ w = w' := by
  have Hs := Lib.hid hs
  obtain ⟨A, c, rfl, _, _⟩ := hs
  go_enter Try.func75, Try.ntmps75
  go_wp2_with (go_at_call 73; refine (Contains_any _ _ l _ Hs.out).mono ?_; rintro e w1 ⟨rfl, rfl⟩)
  go_ret
  exact ⟨rfl, rfl⟩
theorem callFunc_alw : ∀ (args : Array Value) (w : World), (callFunc 75 args).run Try.prog w = .ok (.enter 75 args) w := callFunc_run Try.func75 (by kernel_rfl) (by kernel_rfl)
theorem alwaysB_eq {vars : Nat} {c : List Int} (h : clOk vars c) (hv : vars ≤ 1024) : (c.any fun n => hasB c (negW n)) = alwaysB c := by
  unfold alwaysB
  rw [Bool.eq_iff_iff, List.any_eq_true, List.any_eq_true]
  constructor
  · rintro ⟨x, hx, hh⟩
    obtain ⟨_, h1, h2⟩ := h.2 x hx
    exact ⟨x, hx, by rwa [negW_eq (by omega) (by omega)] at hh⟩
  · rintro ⟨x, hx, hh⟩
    obtain ⟨_, h1, h2⟩ := h.2 x hx
    exact ⟨x, hx, by rwa [negW_eq (by omega) (by omega)]⟩
set_option maxHeartbeats 400000 in
theorem isAlways_any {vars : Nat} (s : Value) (l : List Int) (w : World) (hs : RInts w (Lt w.heap.size) s l) (hok : clOk vars l) (hv : vars ≤ 1024) :
    Calls Try.prog 56 #[s] w fun e w' => e = .returned (.bool (alwaysB l)) ∧ Below w.heap.size w w' := by
  have Heq := Lib.hid (alwaysB_eq hok hv)
  have Hs := Lib.hid hs
  obtain ⟨A, c, rfl, _, _⟩ := hs
  have Hs1 := Lib.hid (RInts.stable.up Hs.out (below_alloc w (.cells #[.slice A l.length c] 27)))
  have hcl : (w.alloc (.cells #[.slice A l.length c] 27)).cell? ⟨w.heap.size, 0, none⟩ = some (.slice A l.length c) := by simp [go_sem]
  have Hf := Lib.hid (fun x => alwFn_any x w.heap.size _ l _ hcl Hs1.out)
  clear hcl
  go_enter Try.func56, Try.ntmps56
  go_wp2_with (go_at_call 74; refine (ContainsFunc_any _ _ _ _ l _ Hs1.out callFunc_alw Hf.out).mono ?_; rintro e w1 ⟨rfl, rfl⟩)
  go_ret
  exact ⟨ret_bool Heq.out, below_alloc _ _⟩
theorem callFunc_isAlw : ∀ (args : Array Value) (w : World), (callFunc 56 args).run Try.prog w = .ok (.enter 56 args) w := callFunc_run Try.func56 (by kernel_rfl) (by kernel_rfl)
set_option maxHeartbeats 400000 in
theorem within_any (s s2 : Value) (a b : List Int) (w : World) {B : Nat} (hs : RInts w (Lt B) s a) (hs2 : RInts w (Lt B) s2 b) :
    Calls Try.prog 62 #[s, s2] w fun e w' => e = .returned (.bool (withinB a b)) ∧ w = w' := by
  obtain ⟨A, c, rfl, hm, hat⟩ := hs.open_
  have Hat := Lib.hid hat; clear hat
  have Hs2 := Lib.hid hs2
  obtain ⟨A2, c2, rfl, _, _⟩ := hs2
  go_enter Try.func62, Try.ntmps62
  go_wp2
  go_loop [9] (fun sv => ∃ k : Nat, k ≤ (a).length ∧ sv = .int .i64 k ∧ Hid ((a.take k).all (hasB b) = true)) (fun sv => (a).length - (intOf sv).toNat)
  case atStart => exact ⟨0, Nat.zero_le _, rfl, rfl⟩
  case round =>
    obtain ⟨k, hkle, rfl, hkinv⟩ := hrel
    by_cases hklt : k < (a).length
    · obtain ⟨bk, offk, uk, rfl, hbk, hcellk, huk⟩ := Hat.out.lt_ hklt
      obtain rfl := huk
      cases hx : hasB b a[k] with
      | true =>
        have Hx := Lib.hid hx; clear hx
        go_wp2_with (go_at_call 73; refine (Contains_any _ _ b _ Hs2.out).mono ?_; rintro e w1 ⟨rfl, rfl⟩; rw [Hx.out])
        go_round
        case rel => exact ⟨k + 1, by omega, by go_num, (by rw [Hid, all_take_succ _ _ _ hklt, hkinv.out, Hx.out]; rfl)⟩
        case measure => simp [intOf]; omega
      | false =>
        have Hd := Lib.hid (show withinB a b = false from all_at (h := hklt) hx)
        have Hx := Lib.hid hx; clear hx
        go_wp2_with (go_at_call 73; refine (Contains_any _ _ b _ Hs2.out).mono ?_; rintro e w1 ⟨rfl, rfl⟩; rw [Hx.out])
        go_ret
        exact ⟨ret_bool Hd.out.symm, rfl⟩
    · obtain rfl : k = (a).length := by omega
      rw [List.take_length] at hkinv
      go_wp2
      go_ret
      exact ⟨ret_bool hkinv.out.symm, rfl⟩

def idxL {α : Type} (p : α → Bool) (l : List α) : Int := match l.findIdx? p with | some i => i | none => -1
theorem idxL_nonneg {α : Type} (p : α → Bool) (l : List α) : decide (0 ≤ idxL p l) = l.any p := by
  unfold idxL
  cases h : l.findIdx? p with
  | none =>
    have := List.findIdx?_eq_none_iff.1 h
    have hn : l.any p = false := by rw [List.any_eq_false]; intro x hx; simp [this x hx]
    simp [hn]
  | some i =>
    obtain ⟨hi, hp, _⟩ := List.findIdx?_eq_some_iff_getElem.1 h
    simp [any_at (h := hi) hp]
set_option maxHeartbeats 1000000 in
theorem IndexFuncL_any (f : FuncId) (p : List Int → Bool) (s : Value) (C : Cls) (w : World) (hs : RIntss w (Lt w.heap.size) s C)
    (hcf : ∀ (args : Array Value) (w : World), (callFunc f args).run Try.prog w = .ok (.enter f args) w)
    (hf : ∀ c, c ∈ C → ∀ (w' : World) (u : Value), RInts w' (Lt w'.heap.size) u c → Calls Try.prog f #[u] w' fun e w'' => e = .returned (.bool (p c)) ∧ Below w'.heap.size w' w'') :
    Calls Try.prog 55 #[s, .func (.func f) #[] #[]] w fun e w' => e = .returned (.int .i64 (idxL p C)) ∧ Below w.heap.size w w' := by
  obtain ⟨A, c, rfl, hm, hat⟩ := hs.open_
  have Hat := Lib.hid hat; clear hat
  have Hf := Lib.hid hf; clear hf
  go_enter Try.func55, Try.ntmps55
  go_wp2
  go_loopw [8] (fun sv wr => ∃ k : Nat, k ≤ (C).length ∧ sv = .int .i64 k ∧ Below w.heap.size w wr ∧ Hid ((C.take k).any p = false)) (fun sv _ => (C).length - (intOf sv).toNat)
  case atStart => exact ⟨0, Nat.zero_le _, rfl, Below.refl _ _, hid_nil_any _ _⟩
  case round =>
    obtain ⟨wk, rfl⟩ : ∃ w0 : World, w0 = wr := ⟨_, rfl⟩
    obtain ⟨k, hkle, rfl, hkbel, hkinv⟩ := hrel
    by_cases hklt : k < (C).length
    · obtain ⟨bk, offk, uk, rfl, hbk, hcellk, huk⟩ := Hat.out.at_ RInts.stable (ag_of_below hkbel) hklt
      have hu1 := RInts.stable.sub huk (S' := Lt wk.heap.size) fun b (hb : b < _) => (Nat.lt_of_lt_of_le hb hkbel.size : b < _)
      have Hc := Lib.hid (Hf.out _ (List.getElem_mem hklt) wk uk hu1)
      clear hu1 huk
      cases hx : p C[k] with
      | true =>
        have Hi := Lib.hid (findIdx_some_of (p := p) hklt hkinv hx)
        have Hx := Lib.hid hx; clear hx
        go_wp2_with fail
        refine Hc.out.mono ?_
        rintro e w1 ⟨rfl, hb1⟩
        rw [Hx.out]
        go_wp2
        go_ret
        exact ⟨ret_int (by rw [idxL, Hi.out]), hkbel.trans (hb1.mono hkbel.size)⟩
      | false =>
        have Hx := Lib.hid hx; clear hx
        go_wp2_with fail
        refine Hc.out.mono ?_
        rintro e w1 ⟨rfl, hb1⟩
        rw [Hx.out]
        go_wp2
        go_roundw
        case rel => exact ⟨k + 1, by omega, by go_num, (hkbel.trans (hb1.mono hkbel.size)), (hid_any_succ hklt hkinv Hx.out)⟩
        case measure => simp [intOf]; omega
    · obtain rfl : k = (C).length := by omega
      go_wp2
      go_ret
      exact ⟨ret_int (by rw [idxL, findIdx_none_of hkinv]), hkbel⟩
set_option maxHeartbeats 400000 in
theorem ContainsFuncL_any (f : FuncId) (p : List Int → Bool) (s : Value) (C : Cls) (w : World) (hs : RIntss w (Lt w.heap.size) s C)
    (hcf : ∀ (args : Array Value) (w : World), (callFunc f args).run Try.prog w = .ok (.enter f args) w)
    (hf : ∀ c, c ∈ C → ∀ (w' : World) (u : Value), RInts w' (Lt w'.heap.size) u c → Calls Try.prog f #[u] w' fun e w'' => e = .returned (.bool (p c)) ∧ Below w'.heap.size w' w'') :
    Calls Try.prog 58 #[s, .func (.func f) #[] #[]] w fun e w' => e = .returned (.bool (C.any p)) ∧ Below w.heap.size w w' := by
  have Hn := Lib.hid (idxL_nonneg p C)
  have Hs := Lib.hid hs
  have Hf := Lib.hid hf
  clear hs hf
  go_enter Try.func58, Try.ntmps58
  go_wp2_with (go_at_call 55; refine (IndexFuncL_any _ p _ C _ Hs.out hcf Hf.out).mono ?_; rintro e w1 ⟨rfl, hb⟩)
  go_ret
  exact ⟨ret_bool Hn.out, hb⟩
end Go.Proofs.Ytdofiipckcfopaa

namespace Go.Proofs.Ytdofiipckcfopaa
open Go.RowKit

def WPost (X : Nat → Prop) (g vars : Nat) (s : TrS) (v : Value) (w : World) (e : Ending) (w' : World) : Prop := e = .returned v ∧ Ch (fun b => ¬ X b) w w' ∧ Wk w' X g vars s
theorem slices_one {w : World} {C : Cls} {cs : List Value} {S : Nat → Prop} (hl : cs.length = C.length) (cl : ∀ i (h : i < C.length) u, cs[i]? = some u → RInts w S u C[i]) : ∀ x ∈ cs, x.oneCell' = true := by
  intro x hx
  obtain ⟨i, hi, rfl⟩ := List.getElem_of_mem hx
  obtain ⟨A, c, e, _⟩ := cl i (by omega) _ (List.getElem?_eq_getElem hi)
  rw [e]; rfl

set_option maxHeartbeats 1000000 in
theorem drop_any (X : Nat → Prop) (g vars i : Nat) (s : TrS) (w : World) (hw : Wk w X g vars s) (hi : i < s.C.length) (hn : s.C.length ≤ 1000000) :
    Calls Try.prog 57 #[.pointer (some ⟨g, 0, none⟩), .int .i64 i] w (WPost X g vars { s with C := s.C.eraseIdx i } (.tuple #[]) w) := by
  obtain ⟨vC, vF, vU, cs, h⟩ := hw
  obtain ⟨gC, cap, rfl⟩ := h.shapeC (by omega)
  obtain ⟨_, hc1, _, _, _⟩ := h.cell
  have H := Lib.hid h
  have Ho := Lib.hid (slices_one h.csl h.cl)
  clear h
  go_enter Try.func57, Try.ntmps57
  go_wp2_with (
    go_at_call 76
    refine (Delete_any gC cap s.C.length i (g + 1) cs _ H.out.oC Ho.out hi hn).mono ?_
    rintro e w1 ⟨rfl, hown1, hg1⟩
    have hb1 := H.out.midg hg1 (fun e => by cases e; have := H.out.gne.1 g rfl; omega)
    have hd1 : w1.cell? ⟨g, 1, none⟩ = some (.slice (some ⟨gC, 0, none⟩) s.C.length cap) := (by rw [cell_of_row _ _ 1 _ _ _ hb1]; rfl)
    have hf1 : w1.frozen? ⟨g, 1, none⟩ = false := frozen_of_row w1 g 1 _ _ hb1
    clear hb1)
  go_end0
  refine ⟨rfl, ?_, ⟨_, _, _, _, H.out.drop hi hown1 hg1⟩⟩
  exact ((ch_grown hg1).imp fun b _ e => H.out.xs b (.inr (.inl e))).trans ((ch_set w1 g 1 _).imp fun b _ e => H.out.xs b (.inl e))

theorem RSl.recap {α : Type} {R : Rd α} {w : World} {S : Nat → Prop} {A : Option Addr} {n c c' : Nat} {l : List α} (h : RSl R w S (.slice A n c) l) (h1 : n ≤ c') (h2 : c' ≤ maxLen) : RSl R w S (.slice A n c') l := by
  obtain ⟨A', c2, e, g1, g2, g3⟩ := h
  cases e
  exact ⟨A, c', rfl, h1, h2, g3⟩
theorem grown_cell {w w' : World} (h : w.grownBy w' none) {b : Nat} (hb : b < w.heap.size) (o : Nat) : w'.cell? ⟨b, o, none⟩ = w.cell? ⟨b, o, none⟩ ∧ w'.frozen? ⟨b, o, none⟩ = w.frozen? ⟨b, o, none⟩ :=
  ⟨World.cell?_of_block (w := w) (h.block b hb (by simp)), World.frozen?_of_block (w := w) (h.block b hb (by simp))⟩
def setC (s : TrS) (o : Option Cls) : TrS := match o with | some C => { s with C := C } | none => s
def CPost (X : Nat → Prop) (g vars : Nat) (s : TrS) (o : Option Cls) (w : World) (e : Ending) (w' : World) : Prop := e = .returned (.bool o.isSome) ∧ Ch (fun b => ¬ X b) w w' ∧ Wk w' X g vars (setC s o)
theorem drop_cons_reads {w : World} {S : Nat → Prop} {A : Option Addr} {n c k : Nat} {l : List Int} (h : RInts w S (.slice A n c) l) (hk : k < n) : ∃ b off, A = some ⟨b, off, none⟩ ∧ ∀ j u, ((l.drop (k + 1)).map (Value.int .i64))[j]? = some u → w.cell? ⟨b, off + (k + 1) + j, none⟩ = some u := by
  obtain ⟨A', c', e, h1, h2, h3⟩ := h
  cases e
  obtain ⟨b, off, rfl, _, hc⟩ := h3 (by omega)
  refine ⟨b, off, rfl, fun j u hu => ?_⟩
  rw [List.getElem?_map, List.getElem?_drop] at hu
  cases hx : l[k + 1 + j]? with
  | none => rw [hx] at hu; simp at hu
  | some x =>
    obtain ⟨hj, hx'⟩ := List.getElem?_eq_some_iff.1 hx
    rw [hx] at hu
    obtain ⟨u', hu', hr⟩ := hc (k + 1 + j) hj
    rw [show off + (k + 1) + j = off + (k + 1 + j) by omega, hu', hr, hx']
    simpa using hu
set_option maxRecDepth 100000 in
set_option maxHeartbeats 4000000 in
theorem twice_any (X : Nat → Prop) (g vars : Nat) (s : TrS) (w : World) (hw : Wk w X g vars s) (hok : clsOk vars s.C) :
    Calls Try.prog 37 #[.pointer (some ⟨g, 0, none⟩)] w (CPost X g vars s (twiceC s.C) w) := by
  have Hw := Lib.hid hw
  obtain ⟨vC, vF, vU, cs, h⟩ := hw
  obtain ⟨_, hc1, _, _, _⟩ := h.cell
  obtain ⟨A, c, rfl, hm, hat⟩ := h.reads.open_
  have Hat := Lib.hid hat
  have H := Lib.hid h
  clear h hat
  go_enter Try.func37, Try.ntmps37
  go_wp2
  go_loop [11] (fun sv => ∃ k : Nat, k ≤ (s.C).length ∧ sv = .int .i64 k ∧ Hid (firstN (twAt s.C) k = none)) (fun sv => (s.C).length - (intOf sv).toNat)
  case atStart => exact ⟨0, Nat.zero_le _, rfl, hid_first _⟩
  case round =>
    obtain ⟨k, hkle, rfl, hkinv⟩ := hrel
    by_cases hklt : k < (s.C).length
    · obtain ⟨bk, offk, uk, rfl, hbk, hcellk, huk⟩ := Hat.out.lt_ hklt
      have Hu := Lib.hid huk
      obtain ⟨A2, c2, rfl, hm2, hat2⟩ := huk.open_
      clear hat2
      cases hd : dupK s.C[k] with
      | none =>
        have Hk := Lib.hid (show firstN (twAt s.C) (k + 1) = none from firstN_go hkinv.out (by rw [twAt, atC_eq hklt, hd]))
        have Hd := Lib.hid (show optI (dupK s.C[k]) = -1 by rw [hd]; rfl); clear hd
        go_wp2_with (go_at_call 54; refine (trimAt_any _ s.C[k] _ Hu.out).mono ?_; rintro e w1 ⟨rfl, rfl⟩; rw [Hd.out])
        go_round
        case rel => exact ⟨k + 1, by omega, by go_num, Hk⟩
        case measure => simp [intOf]; omega
      | some q =>
        have Hk := Lib.hid (show twiceC s.C = some (s.C.set k (s.C[k].eraseIdx q)) from firstN_hit hkinv.out (by rw [twAt, atC_eq hklt, hd]) hklt)
        have Hd := Lib.hid (show optI (dupK s.C[k]) = (q : Int) by rw [hd]; rfl)
        have hq := (dupK_some hd).1
        have hlen2 := (hok _ (List.getElem_mem hklt)).1
        clear hd
        go_wp2_with (go_at_call 54; refine (trimAt_any _ s.C[k] _ Hu.out).mono ?_; rintro e w1 ⟨rfl, rfl⟩; rw [Hd.out])
        obtain ⟨gC, cap, hA⟩ := H.out.shapeC (by omega)
        simp only [Value.slice.injEq, Option.some.injEq, Addr.mk.injEq, and_true, true_and] at hA
        obtain ⟨⟨rfl, rfl⟩, rfl⟩ := hA
        have hfz := (own_at H.out.oC k).2
        have hci : cs[k]? = some (.slice A2 s.C[k].length c2) := by
          have h1 := (own_at H.out.oC k).1 hklt
          rw [Nat.zero_add] at hcellk
          exact h1.symm.trans hcellk
        have hin := H.out.cl k hklt _ hci
        obtain ⟨b2, off2, rfl, hsrc0⟩ := drop_cons_reads hin hq
        have hq2 : s.C[k].length ≤ c2 := hin.cap_
        have hgl := H.out.lt
        have hck : w.cell? ⟨bk, k, none⟩ = some (.slice (some ⟨b2, off2, none⟩) s.C[k].length c2) := by rw [Nat.zero_add] at hcellk; exact hcellk
        have Hin := Lib.hid hin
        have Htk := Lib.hid (hin.take_ (k := q) (by omega))
        clear hin hci
        obtain ⟨news, hnews⟩ : ∃ news, news = (s.C[k].drop (q + 1)).map (Value.int .i64) := ⟨_, rfl⟩
        rw [← hnews] at hsrc0
        have hnl : news.length = s.C[k].length - (q + 1) := by rw [hnews]; simp
        obtain ⟨Aq, hAq, hsrc⟩ : ∃ Aq : Addr, (if c2 = q + 1 then some (⟨b2, off2, none⟩ : Addr) else some ⟨b2, off2 + (q + 1), none⟩) = some Aq ∧ Hid (∀ t u, news[t]? = some u → w.drew.cell? (Aq.add t) = some u) := by
          by_cases h : c2 = q + 1
          · refine ⟨⟨b2, off2, none⟩, by simp [h], fun t u hu => ?_⟩
            have := (List.getElem?_eq_some_iff.1 hu).1
            omega
          · exact ⟨⟨b2, off2 + (q + 1), none⟩, by simp [h], fun t u hu => by rw [add_none]; exact hsrc0 t u hu⟩
        have s1 : Hid (news.length = (s.C[k].length - (q + 1)) * 1) := by rw [Hid, Nat.mul_one]; exact hnl
        have s2 : Hid (∀ u ∈ news, u.oneCell' = true) := by
          intro u hu
          rw [hnews] at hu
          obtain ⟨x, _, rfl⟩ := List.mem_map.1 hu
          rfl
        have Hnews := Lib.hid hnews
        have s4 : Hid (∀ b, (some ⟨b2, off2, none⟩ : Option Addr) = some b → ∀ j u, ((s.C[k].take q).map (Value.int .i64))[j]? = some u → w.drew.cell? (b.add j) = some u) := by
          intro b hb j u hu
          cases hb
          obtain ⟨_, _, e, _, _, hr⟩ := Htk.out
          simp only [Value.slice.injEq] at e
          obtain ⟨rfl, _, rfl⟩ := e
          exact rat_cells (f := Value.int .i64) (fun _ _ _ _ h => h) hr j u hu
        have hqi : (q : Int) + 1 ≤ (s.C[k].length : Int) := by omega
        have hq0 : (0 : Int) ≤ (q : Int) + 1 := by omega
        have hq3 : q + 1 ≤ c2 := by omega
        have hqc : q ≤ c2 := by omega
        have hwr : IntKind.i64.wrap ((q : Int) + 1) = (q : Int) + 1 := IntWalk.i64_in _ (by omega)
        have mixed : Try.prog.follows Departure.mixedOrders = true := by kernel_rfl
        obtain ⟨i0, hi0, hz0, hz1, hzz⟩ := info_parts (P := Try.prog) (e := 3) (z := .int .i64 0) (size := 1) (bytes := 8) (by kernel_rfl)
        clear hnews hnl hsrc0
        by_cases hm0 : q + 1 = s.C[k].length
        · have hmm : s.C[k].length - (q + 1) = 0 := by omega
          have hnn : news = [] := by have := s1.out; rw [hmm] at this; exact List.length_eq_zero_iff.1 (by omega)
          subst hnn
          have Hl := Lib.hid (show s.C[k].eraseIdx q = s.C[k].take q by rw [List.eraseIdx_eq_take_drop_succ, List.drop_of_length_le (by omega), List.append_nil])
          have Hmm := Lib.hid hmm
          clear hm0 hmm
          go_region_law (refine step_append_room rfl (.tmp 28) (.tmp 32) 27 rfl 3 i0 1 Try.underlying27 hi0 hz1 b2 off2 q q (by simp [Act.eval, Act.put]) Aq (s.C[k].length - (q + 1)) (c2 - (q + 1)) [] (by simp [Act.eval, Act.put]) s1.out hsrc.out s2.out (by rw [Hmm.out]; omega) (fun j hj => absurd hj (by simp)) ?_; rw [show World.setCells (World.drew w) b2 (off2 + q * 1) [] = World.drew w from rfl])
          all_goals
            go_wp2
            go_ret
            refine ⟨by rw [Hk.out]; rfl, ?_⟩
            rw [Hk.out]
            have hrd : RInts w (inW w g (.slice (some ⟨bk, 0, none⟩) s.C.length c) vF vU) (.slice (some ⟨b2, off2, none⟩) (q + (s.C[k].length - (q + 1))) q) (s.C[k].eraseIdx q) := by
              rw [Hl.out, Hmm.out]
              exact RSl.recap Htk.out (Nat.le_refl _) (by unfold maxLen; omega)
            exact ⟨((ch_set w bk k _).imp fun i _ e => H.out.xs i (.inr (.inl (by rw [e]; rfl)))).trans ⟨rfl, rfl, rfl, Nat.le_refl _, fun _ _ _ => rfl⟩, _, _, _, _, (H.out.store hrd).keep ⟨rfl, rfl, rfl, Nat.le_refl _, fun _ _ => rfl⟩⟩
        · go_region_law (
              (refine step_append_grows rfl (.tmp 28) (.tmp 32) 27 rfl 3 i0 (.int .i64 0) 1 8 Try.underlying27 hi0 hz0 hz1 hzz rfl (by omega) (some ⟨b2, off2, none⟩) q q ((s.C[k].take q).map (Value.int .i64)) (by simp [Act.eval, Act.put]) (by simp) (by simp; omega) s4.out Aq (s.C[k].length - (q + 1)) (c2 - (q + 1)) news (by simp [Act.eval, Act.put]) s1.out hsrc.out s2.out (by omega) (by unfold maxLen; omega) (by omega) ?_
               intro v1 w3 hown1 hg1
               obtain ⟨A1, c1, rfl⟩ := own_shape hown1
               have hc3 : w3.cell? ⟨bk, k, none⟩ = some (.slice (some ⟨b2, off2, none⟩) s.C[k].length c2) := ((grown_cell hg1 hbk k).1.trans hck)
               have hg3 : w3.cell? ⟨g, 1, none⟩ = some (.slice (some ⟨bk, 0, none⟩) s.C.length c) := ((grown_cell hg1 hgl 1).1.trans hc1)
               have hf3 : w3.frozen? ⟨bk, k, none⟩ = false := ((grown_cell hg1 hbk k).2.trans hfz)))
          all_goals
            go_wp2
            go_ret
            refine ⟨by rw [Hk.out]; rfl, ?_⟩
            rw [Hk.out]
            have hb3 : Below w.heap.size w w3 := ⟨hg1.os, hg1.tape, hg1.output, hg1.size, fun i hi => hg1.block i hi (by simp)⟩
            have h3 := H.out.keep hb3
            have hl : s.C[k].eraseIdx q = s.C[k].take q ++ s.C[k].drop (q + 1) := List.eraseIdx_eq_take_drop_succ _ _
            have hown2 : w3.ownsRow w.heap.size 3 1 (.slice A1 (q + (s.C[k].length - (q + 1))) c1) (s.C[k].eraseIdx q).length ((s.C[k].eraseIdx q).map (Value.int .i64)) := by
              rw [show (s.C[k].eraseIdx q).length = q + (s.C[k].length - (q + 1)) by rw [hl]; simp; omega, hl, List.map_append, ← Hnews.out]
              exact hown1
            have hrd := ints_of_own (S := inW w3 g (.slice (some ⟨bk, 0, none⟩) s.C.length c) vF vU) hown2 fun b hb => by
              have h1 := hown2.lt b hb
              refine ⟨by omega, h1.2, fun e => ?_, fun e => ?_, fun e => ?_⟩
              · have := H.out.ltC.1 b e.symm; omega
              · have := H.out.ltC.2.1 b e.symm; omega
              · have := H.out.ltC.2.2 b e.symm; omega
            exact ⟨(ch_new hb3 _).trans ((ch_set w3 bk k _).imp fun i _ e => h3.xs i (.inr (.inl (by rw [e]; rfl)))), _, _, _, _, h3.store hrd⟩
    · obtain rfl : k = (s.C).length := by omega
      have Hk := Lib.hid (show twiceC s.C = none from hkinv.out)
      go_wp2
      go_ret
      rw [Hk.out]
      exact ⟨rfl, Ch.refl _ _, Hw.out⟩
end Go.Proofs.Ytdofiipckcfopaa
