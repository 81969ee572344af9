/- What a call may change: nothing of what was there but what is named. Plain. -/
import Derived.Test.YtpgdioopkcfjdaaBase
namespace Go.Proofs.Ytpgdioopkcfjdaa
open Go.RowKit

/-- From w to w' nothing that was there has changed but what D names. -/
structure Ch (D : Nat → Prop) (w w' : World) : Prop where
  os : w'.os = w.os
  tape : w'.tape = w.tape
  output : w'.output = w.output
  size : w.heap.size ≤ w'.heap.size
  block : ∀ b, b < w.heap.size → ¬ D b → w'.heap[b]? = w.heap[b]?
theorem Ch.refl (D : Nat → Prop) (w : World) : Ch D w w := ⟨rfl, rfl, rfl, Nat.le_refl _, fun _ _ _ => rfl⟩
theorem Ch.trans {D : Nat → Prop} {a b c : World} (h : Ch D a b) (k : Ch D b c) : Ch D a c :=
  ⟨k.os.trans h.os, k.tape.trans h.tape, k.output.trans h.output, Nat.le_trans h.size k.size, fun i hi hd => (k.block i (Nat.lt_of_lt_of_le hi h.size) hd).trans (h.block i hi hd)⟩
theorem Ch.imp {D D' : Nat → Prop} {a b : World} (h : Ch D a b) (hd : ∀ i, i < a.heap.size → D i → D' i) : Ch D' a b :=
  ⟨h.os, h.tape, h.output, h.size, fun i hi hn => h.block i hi fun x => hn (hd i hi x)⟩
theorem ch_below {B : Nat} {a b : World} (h : Below B a b) : Ch (fun i => B ≤ i) a b := ⟨h.os, h.tape, h.output, h.size, fun i _ hn => h.block i (by omega)⟩
theorem ch_new {a b : World} (h : Below a.heap.size a b) (D : Nat → Prop) : Ch D a b := (ch_below h).imp fun i hi hd => by omega
theorem ch_grown {a b : World} {row : Option Nat} (h : a.grownBy b row) : Ch (fun i => some i = row) a b := ⟨h.os, h.tape, h.output, h.size, fun i hi hn => h.block i hi hn⟩
theorem ch_set (a : World) (g o : Nat) (v : Value) : Ch (fun i => i = g) a (a.setCell ⟨g, o, none⟩ v) := ⟨rfl, rfl, rfl, by simp, fun i _ hn => Below.heap_setCell _ _ _ _ hn⟩
theorem Ch.below {D : Nat → Prop} {B : Nat} {a b : World} (h : Ch D a b) (hd : ∀ i, D i → B ≤ i) (hB : B ≤ a.heap.size) : Below B a b := ⟨h.os, h.tape, h.output, h.size, fun i hi => h.block i (by omega) fun x => by have := hd i x; omega⟩
theorem Ch.ag {D S : Nat → Prop} {a b : World} (h : Ch D a b) (hs : ∀ i, S i → i < a.heap.size ∧ ¬ D i) : Ag S a b := fun i hi => h.block i (hs i hi).1 (hs i hi).2
theorem Ch.own {D : Nat → Prop} {a b : World} (h : Ch D a b) {base : Nat} {t : TypeId} {sz : Nat} {v : Value} {n : Nat} {xs : List Value} (ho : a.ownsRow base t sz v n xs) (hd : ∀ i, v.ownBlock = some i → ¬ D i) : b.ownsRow base t sz v n xs := by
  have hlt := ho.lt
  obtain ⟨h1, ⟨rfl, h2⟩ | ⟨g, cap, cur, rfl, hbg, hh, hr⟩⟩ := ho
  · exact ⟨h1, .inl ⟨rfl, h2⟩⟩
  · exact ⟨h1, .inr ⟨g, cap, cur, rfl, hbg, (h.block g (hlt g rfl).2 (hd g rfl)).trans hh, hr⟩⟩

def Apart (v v' : Value) : Prop := ∀ b, v.ownBlock = some b → v'.ownBlock = some b → False
theorem Apart.symm {v v' : Value} (h : Apart v v') : Apart v' v := fun b h1 h2 => h b h2 h1
/-- What is made anew, or is as it was. -/
def NewOr (w : World) (v v' : Value) : Prop := ∀ b, v'.ownBlock = some b → v.ownBlock = some b ∨ w.heap.size ≤ b
theorem NewOr.refl (w : World) (v : Value) : NewOr w v v := fun _ h => .inl h
theorem newOr_app {w w' : World} {v v' : Value} (h : v'.ownBlock = v.ownBlock ∨ v'.ownBlock = some w'.heap.size) (hs : w.heap.size ≤ w'.heap.size) : NewOr w v v' := fun b hb => by
  rcases h with h | h
  · rw [h] at hb; exact .inl hb
  · rw [h] at hb; cases hb; exact .inr hs
theorem Apart.new {w : World} {v v' u : Value} (h : Apart v u) (hv : NewOr w v v') (hu : ∀ b, u.ownBlock = some b → b < w.heap.size) : Apart v' u := fun b h1 h2 => by
  rcases hv b h1 with e | e
  · exact h b e h2
  · have := hu b h2; omega
theorem Ch.drewN {D : Nat → Prop} {a b : World} (h : Ch D a b) (n : Nat) : Ch D a (b.drewN n) := ⟨h.os, h.tape, h.output, h.size, h.block⟩
theorem own_new {w w' : World} (h : Below w.heap.size w w') {base : Nat} {t : TypeId} {sz : Nat} {v : Value} {n : Nat} {xs : List Value} (ho : w.ownsRow base t sz v n xs) : w'.ownsRow base t sz v n xs := (ch_new h (fun _ => False)).own ho fun _ _ x => x
end Go.Proofs.Ytpgdioopkcfjdaa
