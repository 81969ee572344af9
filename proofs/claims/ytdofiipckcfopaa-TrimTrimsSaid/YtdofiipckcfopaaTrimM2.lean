/- A question that is made smaller, in memory: what each change makes of it. Plain law. -/
import Derived.Test.YtdofiipckcfopaaTrimM
namespace Go.Proofs.Ytdofiipckcfopaa
open Go.RowKit

section
variable {w w' : World} {X : Nat → Prop} {g vars : Nat} {C C' : Cls} {F U F' U' : List Int} {E E' : Bool} {vC vF vU vC' vF' vU' v1 : Value} {cs cs' : List Value}
theorem WkAt.shapeC (h : WkAt w X g vars C F U E vC vF vU cs) (hl : 0 < C.length) : ∃ gC cap, vC = .slice (some ⟨gC, 0, none⟩) C.length cap := by
  obtain ⟨_, ⟨_, h0⟩ | ⟨gC, cap, cur, rfl, _⟩⟩ := h.oC
  · omega
  · exact ⟨gC, cap, rfl⟩
theorem WkAt.csl (h : WkAt w X g vars C F U E vC vF vU cs) : cs.length = C.length := by simpa using h.oC.1
theorem WkAt.gne (h : WkAt w X g vars C F U E vC vF vU cs) : (∀ b, vC.ownBlock = some b → g < b) ∧ (∀ b, vF.ownBlock = some b → g < b) ∧ (∀ b, vU.ownBlock = some b → g < b) :=
  ⟨fun b hb => by have := (h.oC.lt b hb).1; omega, fun b hb => by have := (h.oF.lt b hb).1; omega, fun b hb => by have := (h.oU.lt b hb).1; omega⟩
/-- While one of its rows grows, the question itself stays. -/
theorem WkAt.midg (h : WkAt w X g vars C F U E vC vF vU cs) {row : Option Nat} (hg1 : w.grownBy w' row) (hr : row ≠ some g) : w'.heap[g]? = some (.cells #[.int .i64 (vars : Int), vC, vF, vU, .bool E] 59 (0, 0)) :=
  (hg1.block g h.lt fun e => hr e.symm).trans h.hg
theorem WkAt.pushF (h : WkAt w X g vars C F U E vC vF vU cs) {n : Int} (o1 : w'.ownsRow (g + 1) 3 1 v1 (F.length + 1) (F.map (Value.int .i64) ++ [.int .i64 n])) (hg1 : w.grownBy w' vF.ownBlock) (hat : v1.ownBlock = vF.ownBlock ∨ v1.ownBlock = some w.heap.size) :
    WkAt (w'.setCell ⟨g, 2, none⟩ v1) X g vars C (F ++ [n]) U E vC v1 vU cs := by
  have hne : ∀ {t sz v n xs}, w'.ownsRow (g + 1) t sz v n xs → ∀ i, v.ownBlock = some i → ¬ i = g := fun ho i hi e => by have := (ho.lt i hi).1; omega
  have hch := (ch_grown hg1).imp (D' := FP g vC vF vU) fun i _ e => .inr (.inr (.inl e))
  have hch2 := hch.trans ((ch_set w' g 2 v1).imp (D' := FP g vC vF vU) fun i _ e => .inl e)
  have hn := newOr_app hat (Nat.le_refl _)
  have hmid := h.midg hg1 fun e => by have := h.gne.2.1 g e; omega
  have h1 := (ch_grown hg1).own h.oC (fun i hi e => h.aCF i hi e.symm)
  have h2 := (ch_grown hg1).own h.oU (fun i hi e => h.aFU i e.symm hi)
  refine h.to hch2 (by rw [heap_setCell_same w' g 2 _ _ v1 hmid]; rfl) ((ch_set w' g 2 v1).own h1 (hne h1)) ?_ ((ch_set w' g 2 v1).own h2 (hne h2)) (fun i hi u hu => inner_up hch2 (fun _ _ x => x) (.refl _ _) hn (.refl _ _) (h.cl i hi u hu)) (.refl _ _) hn (.refl _ _) (h.aCF.symm.new hn h.ltC.1).symm h.aCU (h.aFU.new hn h.ltC.2.2)
  rw [List.length_append, List.map_append]
  exact (ch_set w' g 2 v1).own o1 (hne o1)
theorem WkAt.pushU (h : WkAt w X g vars C F U E vC vF vU cs) {n : Int} (o1 : w'.ownsRow (g + 1) 3 1 v1 (U.length + 1) (U.map (Value.int .i64) ++ [.int .i64 n])) (hg1 : w.grownBy w' vU.ownBlock) (hat : v1.ownBlock = vU.ownBlock ∨ v1.ownBlock = some w.heap.size) :
    WkAt (w'.setCell ⟨g, 3, none⟩ v1) X g vars C F (U ++ [n]) E vC vF v1 cs := by
  have hne : ∀ {t sz v n xs}, w'.ownsRow (g + 1) t sz v n xs → ∀ i, v.ownBlock = some i → ¬ i = g := fun ho i hi e => by have := (ho.lt i hi).1; omega
  have hch := (ch_grown hg1).imp (D' := FP g vC vF vU) fun i _ e => .inr (.inr (.inr e))
  have hch2 := hch.trans ((ch_set w' g 3 v1).imp (D' := FP g vC vF vU) fun i _ e => .inl e)
  have hn := newOr_app hat (Nat.le_refl _)
  have hmid := h.midg hg1 fun e => by have := h.gne.2.2 g e; omega
  have h1 := (ch_grown hg1).own h.oC (fun i hi e => h.aCU i hi e.symm)
  have h2 := (ch_grown hg1).own h.oF (fun i hi e => h.aFU i hi e.symm)
  refine h.to hch2 (by rw [heap_setCell_same w' g 3 _ _ v1 hmid]; rfl) ((ch_set w' g 3 v1).own h1 (hne h1)) ((ch_set w' g 3 v1).own h2 (hne h2)) ?_ (fun i hi u hu => inner_up hch2 (fun _ _ x => x) (.refl _ _) (.refl _ _) hn (h.cl i hi u hu)) (.refl _ _) (.refl _ _) hn h.aCF (h.aCU.symm.new hn h.ltC.1).symm (h.aFU.symm.new hn h.ltC.2.1).symm
  rw [List.length_append, List.map_append]
  exact (ch_set w' g 3 v1).own o1 (hne o1)
theorem WkAt.setE (h : WkAt w X g vars C F U E vC vF vU cs) (b : Bool) : WkAt (w.setCell ⟨g, 4, none⟩ (.bool b)) X g vars C F U b vC vF vU cs := by
  have hch := ch_set w g 4 (.bool b)
  have hne : ∀ {t sz v n xs}, w.ownsRow (g + 1) t sz v n xs → ∀ i, v.ownBlock = some i → ¬ i = g := fun ho i hi e => by have := (ho.lt i hi).1; omega
  exact h.to hch (by rw [heap_setCell_same w g 4 _ _ (.bool b) h.hg]; rfl) (hch.own h.oC (hne h.oC)) (hch.own h.oF (hne h.oF)) (hch.own h.oU (hne h.oU)) (fun i hi u hu => inner_up hch (fun _ _ x => .inl x) (.refl _ _) (.refl _ _) (.refl _ _) (h.cl i hi u hu)) (.refl _ _) (.refl _ _) (.refl _ _) h.aCF h.aCU h.aFU
/-- One clause is another one. -/
theorem WkAt.store {gC cap n : Nat} (h : WkAt w X g vars C F U E (.slice (some ⟨gC, 0, none⟩) n cap) vF vU cs) {i : Nat} {u : Value} {c : List Int} (hr : RInts w (inW w g (.slice (some ⟨gC, 0, none⟩) n cap) vF vU) u c) :
    WkAt (w.setCell ⟨gC, i, none⟩ u) X g vars (C.set i c) F U E (.slice (some ⟨gC, 0, none⟩) n cap) vF vU (cs.set i u) := by
  have hch := ch_set w gC i u
  have hD : ∀ b, b < w.heap.size → b = gC → FP g (.slice (some ⟨gC, 0, none⟩) n cap) vF vU b := fun b _ e => .inr (.inl (by rw [e]; rfl))
  have hn : n = C.length := by
    obtain ⟨_, ⟨e, _⟩ | ⟨_, _, _, e, _⟩⟩ := h.oC
    · cases e
    · cases e; rfl
  subst hn
  refine h.to hch ?_ ?_ (hch.own h.oF fun b hb e => h.aCF gC rfl (e ▸ hb)) (hch.own h.oU fun b hb e => h.aCU gC rfl (e ▸ hb)) (fun j hj u' hu => ?_) (.refl _ _) (.refl _ _) (.refl _ _) h.aCF h.aCU h.aFU
  · exact (hch.block g h.lt fun e => by have := h.gne.1 gC rfl; omega).trans h.hg
  · rw [List.length_set]; exact own_set h.oC i u
  · rw [List.getElem_set]
    rw [List.getElem?_set] at hu
    split at hu
    · next e =>
      rw [if_pos e]
      split at hu
      · cases hu; exact inner_up hch hD (.refl _ _) (.refl _ _) (.refl _ _) hr
      · cases hu
    · next e => rw [if_neg e]; exact inner_up hch hD (.refl _ _) (.refl _ _) (.refl _ _) (h.cl j (by simpa using hj) u' hu)
/-- One clause goes. -/
theorem WkAt.drop {gC cap n : Nat} (h : WkAt w X g vars C F U E (.slice (some ⟨gC, 0, none⟩) n cap) vF vU cs) {i : Nat} (hi : i < C.length) (o1 : w'.ownsRow (g + 1) 27 1 (.slice (some ⟨gC, 0, none⟩) (n - 1) cap) (n - 1) (cs.eraseIdx i)) (hg1 : w.grownBy w' (some gC)) :
    WkAt (w'.setCell ⟨g, 1, none⟩ (.slice (some ⟨gC, 0, none⟩) (n - 1) cap)) X g vars (C.eraseIdx i) F U E (.slice (some ⟨gC, 0, none⟩) (n - 1) cap) vF vU (cs.eraseIdx i) := by
  have hn : n = C.length := by
    obtain ⟨_, ⟨e, _⟩ | ⟨_, _, _, e, _⟩⟩ := h.oC
    · cases e
    · cases e; rfl
  subst hn
  have hne : ∀ {t sz v n xs}, w'.ownsRow (g + 1) t sz v n xs → ∀ i, v.ownBlock = some i → ¬ i = g := fun ho i hi e => by have := (ho.lt i hi).1; omega
  have hch := (ch_grown hg1).imp (D' := FP g (.slice (some ⟨gC, 0, none⟩) C.length cap) vF vU) fun i _ e => .inr (.inl e)
  have hch2 := hch.trans ((ch_set w' g 1 (.slice (some ⟨gC, 0, none⟩) (C.length - 1) cap)).imp (D' := FP g (.slice (some ⟨gC, 0, none⟩) C.length cap) vF vU) fun i _ e => .inl e)
  have hmid := h.midg hg1 fun e => by cases e; have := h.gne.1 g rfl; omega
  have h1 := (ch_grown hg1).own h.oF (fun i hi e => by cases e; exact h.aCF gC rfl hi)
  have h2 := (ch_grown hg1).own h.oU (fun i hi e => by cases e; exact h.aCU gC rfl hi)
  have nC : NewOr w (.slice (some ⟨gC, 0, none⟩) C.length cap) (.slice (some ⟨gC, 0, none⟩) (C.length - 1) cap) := fun b hb => .inl hb
  have hel : (C.eraseIdx i).length = C.length - 1 := List.length_eraseIdx_of_lt hi
  refine h.to hch2 (by rw [heap_setCell_same w' g 1 _ _ _ hmid]; rfl) ?_ ((ch_set w' g 1 _).own h1 (hne h1)) ((ch_set w' g 1 _).own h2 (hne h2)) (fun j hj u hu => ?_) nC (.refl _ _) (.refl _ _) (fun b hb => h.aCF b hb) (fun b hb => h.aCU b hb) h.aFU
  · rw [hel]; exact (ch_set w' g 1 _).own o1 (hne o1)
  · rw [List.getElem_eraseIdx]
    rw [List.getElem?_eraseIdx] at hu
    split at hu
    · next e => rw [dif_pos e]; exact inner_up hch2 (fun _ _ x => x) nC (.refl _ _) (.refl _ _) (h.cl j (by omega) u hu)
    · next e => rw [dif_neg e]; exact inner_up hch2 (fun _ _ x => x) nC (.refl _ _) (.refl _ _) (h.cl (j + 1) (by omega) u hu)
end
end Go.Proofs.Ytdofiipckcfopaa
