/- Words for memory: a slice that reads as a list, an owned row that is pushed to, what a call leaves as it was; and the last step of a law's row. No function of the program is in sight. -/
import Derived.Test.YtgfbmidpiamkhaaDoorRows
import Derived.WalkKit
import Derived.WalkSpells
import Derived.WalkLawsBesides
import Derived.BigQuiet
import Derived.Deep.QuietTactic
import Derived.Deep.Draws
import Derived.Laws.OwnMore
import Derived.Deep.AppendLies
import Derived.Laws.Rows
import Derived.Maps.AppendAt
import Derived.Lib.Hide
import Derived.ProofKit
import Derived.Deep.Slices
import Derived.Carry
import Derived.Lib.SmallJoins
namespace Go.Proofs.YtgfbmidpiamkhaaDoor
open Go.RowKit Go.ChangeShapes Go.WideShapes Go.ChangeAt Go.Deep

theorem block_of_add (a : Addr) (n : Nat) : (a.add n).block = a.block := by unfold Addr.add; split <;> rfl
theorem add_none (b o n : Nat) : (⟨b, o, none⟩ : Addr).add n = ⟨b, o + n, none⟩ := by unfold Addr.add; split <;> simp_all

/-! ### Sets of blocks, and worlds that agree on one -/
abbrev Lt (n : Nat) : Nat → Prop := fun b => b < n
def Ag (S : Nat → Prop) (w w' : World) : Prop := ∀ b, S b → w'.heap[b]? = w.heap[b]?
theorem Ag.refl (S : Nat → Prop) (w : World) : Ag S w w := fun _ _ => rfl
theorem Ag.trans {S : Nat → Prop} {a b c : World} (h : Ag S a b) (k : Ag S b c) : Ag S a c := fun i hi => (k i hi).trans (h i hi)
theorem Ag.sub {S T : Nat → Prop} {w w' : World} (h : Ag S w w') (hs : ∀ b, T b → S b) : Ag T w w' := fun b hb => h b (hs b hb)
theorem Ag.cell {S : Nat → Prop} {w w' : World} (h : Ag S w w') {p : Addr} (hp : S p.block) : w'.cell? p = w.cell? p := World.cell?_of_block (w := w) (h p.block hp)
theorem ag_of_below {B : Nat} {w w' : World} (h : Below B w w') : Ag (Lt B) w w' := fun b hb => h.block b hb
theorem ag_of_grown {w w' : World} {row : Option Nat} (h : w.grownBy w' row) : Ag (fun b => b < w.heap.size ∧ some b ≠ row) w w' := fun b hb => h.block b hb.1 hb.2
theorem ag_alloc (w : World) (o : Obj) : Ag (Lt w.heap.size) w (w.alloc o) := fun b hb => Below.heap_alloc w o b hb
theorem ag_setCell (w : World) (a : Addr) (u : Value) : Ag (fun b => b ≠ a.block) w (w.setCell a u) := fun b hb => Below.heap_setCell w a u b hb
theorem below_drewN {B : Nat} {a w : World} (h : Below B a w) (n : Nat) : Below B a (w.drewN n) := ⟨h.os, h.tape, h.output, h.size, h.block⟩
theorem bcell {W w1 : World} {B : Nat} (hb : Below B W w1) : (∀ b o, b < B → w1.cell? ⟨b, o, none⟩ = W.cell? ⟨b, o, none⟩) ∧ (∀ b o, b < B → w1.frozen? ⟨b, o, none⟩ = W.frozen? ⟨b, o, none⟩) :=
  ⟨fun b o h => hb.cell (p := ⟨b, o, none⟩) h, fun b o h => hb.frozen (p := ⟨b, o, none⟩) h⟩
theorem box_cell {w w1 : World} {cs : Array Value} {t : TypeId} (h : Below (w.alloc (.cells cs t)).heap.size (w.alloc (.cells cs t)) w1) (j : Nat) : w1.cell? ⟨w.heap.size, j, none⟩ = cs[j]? := by
  rw [h.cell (p := ⟨w.heap.size, j, none⟩) (by simp)]
  exact cell_of_row _ _ j cs t (0, 0) (heap_alloc_new w _)
theorem box2 {w w1 : World} {a b : Value} {t : TypeId} (h : Below (w.alloc (.cells #[a, b] t)).heap.size (w.alloc (.cells #[a, b] t)) w1) :
    w1.cell? ⟨w.heap.size, 0, none⟩ = some a ∧ w1.cell? ⟨w.heap.size, 1, none⟩ = some b := ⟨box_cell h 0, box_cell h 1⟩
theorem box3 {w w1 : World} {a b c : Value} {t : TypeId} (h : Below (w.alloc (.cells #[a, b, c] t)).heap.size (w.alloc (.cells #[a, b, c] t)) w1) :
    w1.cell? ⟨w.heap.size, 0, none⟩ = some a ∧ w1.cell? ⟨w.heap.size, 1, none⟩ = some b ∧ w1.cell? ⟨w.heap.size, 2, none⟩ = some c := ⟨box_cell h 0, box_cell h 1, box_cell h 2⟩
theorem box_a {w w1 : World} {cs ds : Array Value} {t u : TypeId} (h : Below ((w.alloc (.cells cs t)).alloc (.cells ds u)).heap.size ((w.alloc (.cells cs t)).alloc (.cells ds u)) w1) (j : Nat) : w1.cell? ⟨w.heap.size, j, none⟩ = cs[j]? := by
  rw [h.cell (p := ⟨w.heap.size, j, none⟩) (by simp; omega)]
  exact cell_of_row _ _ j cs t (0, 0) ((Below.heap_alloc _ _ _ (by simp)).trans (heap_alloc_new w _))
theorem box_b {w w1 : World} {cs ds : Array Value} {t u : TypeId} (h : Below ((w.alloc (.cells cs t)).alloc (.cells ds u)).heap.size ((w.alloc (.cells cs t)).alloc (.cells ds u)) w1) (j : Nat) : w1.cell? ⟨w.heap.size + 1, j, none⟩ = ds[j]? := by
  rw [h.cell (p := ⟨w.heap.size + 1, j, none⟩) (by simp)]
  have := heap_alloc_new (w.alloc (.cells cs t)) (.cells ds u)
  simp only [World.size_alloc] at this
  exact cell_of_row _ _ j ds u (0, 0) this
theorem box3_1 {w w1 : World} {a b c d : Value} {t u : TypeId} (h : Below ((w.alloc (.cells #[a, b, c] t)).alloc (.cells #[d] u)).heap.size ((w.alloc (.cells #[a, b, c] t)).alloc (.cells #[d] u)) w1) :
    w1.cell? ⟨w.heap.size, 0, none⟩ = some a ∧ w1.cell? ⟨w.heap.size, 1, none⟩ = some b ∧ w1.cell? ⟨w.heap.size, 2, none⟩ = some c ∧ w1.cell? ⟨w.heap.size + 1, 0, none⟩ = some d := ⟨box_a h 0, box_a h 1, box_a h 2, box_b h 0⟩
theorem ret_int {k : IntKind} {a b : Int} (h : a = b) : Ending.returned (.int k a) = .returned (.int k b) := by rw [h]
theorem ret_bool {a b : Bool} (h : a = b) : Ending.returned (.bool a) = .returned (.bool b) := by rw [h]

theorem heap_at_alloc {W : World} {o o' : Obj} {b : Nat} (h : W.heap[b]? = some o') : (W.alloc o).heap[b]? = some o' := (Below.heap_alloc W o b (Array.getElem?_eq_some_iff.1 h).1).trans h
theorem heap_new {W : World} {o : Obj} {b : Nat} (hb : b = W.heap.size) : (W.alloc o).heap[b]? = some o := by subst hb; exact heap_alloc_new W o

/-! ### Readings -/
abbrev Rd (α : Type) := World → (Nat → Prop) → Value → α → Prop
/-- A reading holds on in any world that agrees on its blocks. -/
def Stable {α : Type} (R : Rd α) : Prop := ∀ w w' S S' v x, R w S v x → Ag S w w' → (∀ b, S b → S' b) → R w' S' v x
/-- One-cell elements: where there is an element, the cells lie in a row in a block of S. -/
def RAt {α : Type} (R : Rd α) (w : World) (S : Nat → Prop) (A : Option Addr) (l : List α) : Prop :=
  0 < l.length → ∃ b off, A = some ⟨b, off, none⟩ ∧ S b ∧ ∀ k (h : k < l.length), ∃ u, w.cell? ⟨b, off + k, none⟩ = some u ∧ R w S u l[k]
/-- The slice value v reads as the list l. -/
def RSl {α : Type} (R : Rd α) : Rd (List α) := fun w S v l =>
  ∃ A c, v = .slice A l.length c ∧ l.length ≤ c ∧ c ≤ maxLen ∧ RAt R w S A l
def RInt : Rd Int := fun _ _ v n => v = .int .i64 n
def RIntW : Rd Int := fun _ _ v n => v = .int .i64 n ∧ -9223372036854775808 ≤ n ∧ n ≤ 9223372036854775807
def RBool : Rd Bool := fun _ _ v b => v = .bool b
def RStr : Rd ByteArray := fun _ _ v s => v = .string s
abbrev RInts := RSl RInt
abbrev RBools := RSl RBool
abbrev RStrs := RSl RStr
abbrev RIntss := RSl RInts
abbrev RIntsss := RSl RIntss
theorem RInt.stable : Stable RInt := fun _ _ _ _ _ _ h _ _ => h
theorem RIntW.stable : Stable RIntW := fun _ _ _ _ _ _ h _ _ => h
theorem RBool.stable : Stable RBool := fun _ _ _ _ _ _ h _ _ => h
theorem RStr.stable : Stable RStr := fun _ _ _ _ _ _ h _ _ => h
theorem RAt.agree {α : Type} {R : Rd α} (hs : Stable R) {w w' : World} {S S' : Nat → Prop} {A : Option Addr} {l : List α} (h : RAt R w S A l) (ha : Ag S w w') (hS : ∀ b, S b → S' b) : RAt R w' S' A l := by
  intro hp
  obtain ⟨b, off, e, hb, hc⟩ := h hp
  refine ⟨b, off, e, hS b hb, fun k hk => ?_⟩
  obtain ⟨u, hu, hR⟩ := hc k hk
  exact ⟨u, (ha.cell (p := ⟨b, off + k, none⟩) hb).trans hu, hs _ _ _ _ _ _ hR ha hS⟩
theorem RSl.stable {α : Type} {R : Rd α} (hs : Stable R) : Stable (RSl R) := by
  rintro w w' S S' v l ⟨A, c, hv, h1, h2, h3⟩ ha hS
  exact ⟨A, c, hv, h1, h2, h3.agree hs ha hS⟩
theorem RInts.stable : Stable RInts := RSl.stable RInt.stable
theorem RIntss.stable : Stable RIntss := RSl.stable RInts.stable
theorem RIntsss.stable : Stable RIntsss := RSl.stable RIntss.stable
theorem RBools.stable : Stable RBools := RSl.stable RBool.stable
theorem RStrs.stable : Stable RStrs := RSl.stable RStr.stable
theorem Stable.agree {α : Type} {R : Rd α} (hs : Stable R) {w w' : World} {S : Nat → Prop} {v : Value} {x : α} (h : R w S v x) (ha : Ag S w w') : R w' S v x := hs _ _ _ _ _ _ h ha fun _ h => h
theorem Stable.below {α : Type} {R : Rd α} (hs : Stable R) {w w' : World} {B : Nat} {v : Value} {x : α} (h : R w (Lt B) v x) (hb : Below B w w') : R w' (Lt B) v x := hs.agree h (ag_of_below hb)
theorem Stable.sub {α : Type} {R : Rd α} (hs : Stable R) {w : World} {S S' : Nat → Prop} {v : Value} {x : α} (h : R w S v x) (hS : ∀ b, S b → S' b) : R w S' v x := hs _ _ _ _ _ _ h (Ag.refl _ _) hS
theorem below_alloc (w : World) (o : Obj) : Below w.heap.size w (w.alloc o) := (Below.refl _ _).alloc (Nat.le_refl _) o
theorem Stable.up {α : Type} {R : Rd α} (hs : Stable R) {w w' : World} {v : Value} {x : α} (h : R w (Lt w.heap.size) v x) (hb : Below w.heap.size w w') : R w' (Lt w'.heap.size) v x :=
  hs _ _ _ _ _ _ h (ag_of_below hb) fun b (hlt : b < _) => (Nat.lt_of_lt_of_le hlt hb.size : b < _)
theorem RSl.open_ {α : Type} {R : Rd α} {w : World} {S : Nat → Prop} {v : Value} {l : List α} (h : RSl R w S v l) :
    ∃ A c, v = .slice A l.length c ∧ l.length ≤ 9223372036854775807 ∧ RAt R w S A l := by
  obtain ⟨A, c, hv, h1, h2, h3⟩ := h
  unfold maxLen at h2
  exact ⟨A, c, hv, by omega, h3⟩
theorem RAt.at_ {α : Type} {R : Rd α} {w w' : World} {S : Nat → Prop} {k : Nat} {A : Option Addr} {l : List α} (h : RAt R w S A l)
    (hs : Stable R) (ha : Ag S w w') (hk : k < l.length) : ∃ b off u, A = some ⟨b, off, none⟩ ∧ S b ∧ w'.cell? ⟨b, off + k, none⟩ = some u ∧ R w' S u l[k] := by
  obtain ⟨b, off, e, hb, hc⟩ := h.agree hs ha (fun _ h => h) (by omega)
  obtain ⟨u, hu, hR⟩ := hc k hk
  exact ⟨b, off, u, e, hb, hu, hR⟩
theorem RAt.lt_ {α : Type} {R : Rd α} {w : World} {n : Nat} {k : Nat} {A : Option Addr} {l : List α} (h : RAt R w (Lt n) A l) (hk : k < l.length) :
    ∃ b off u, A = some ⟨b, off, none⟩ ∧ b < n ∧ w.cell? ⟨b, off + k, none⟩ = some u ∧ R w (Lt n) u l[k] := by
  obtain ⟨b, off, e, hb, hc⟩ := h (by omega)
  obtain ⟨u, hu, hR⟩ := hc k hk
  exact ⟨b, off, u, e, hb, hu, hR⟩
theorem RAt.again {α : Type} {R : Rd α} {w : World} {S : Nat → Prop} {b off k : Nat} {l : List α} (h : RAt R w S (some ⟨b, off, none⟩) l) (hk : k < l.length) :
    ∃ u, w.cell? ⟨b, off + k, none⟩ = some u ∧ R w S u l[k] := by
  obtain ⟨b', off', e, hb, hc⟩ := h (by omega)
  simp only [Option.some.injEq, Addr.mk.injEq, and_true] at e
  obtain ⟨rfl, rfl⟩ := e
  exact hc k hk
theorem RSl.nil_ {α : Type} (R : Rd α) (w : World) (S : Nat → Prop) : RSl R w S (.slice none 0 0) [] := ⟨none, 0, rfl, Nat.le_refl _, Nat.zero_le _, fun h => absurd h (by simp)⟩
theorem RSl.map_ {α : Type} {R R' : Rd α} {w : World} {S : Nat → Prop} {v : Value} {l : List α} (h : RSl R w S v l) (hm : ∀ u x, x ∈ l → R w S u x → R' w S u x) : RSl R' w S v l := by
  obtain ⟨A, c, hv, h1, h2, h3⟩ := h
  refine ⟨A, c, hv, h1, h2, fun hp => ?_⟩
  obtain ⟨b, off, e, hb, hc⟩ := h3 hp
  refine ⟨b, off, e, hb, fun k hk => ?_⟩
  obtain ⟨u, hu, hR⟩ := hc k hk
  exact ⟨u, hu, hm _ _ (List.getElem_mem hk) hR⟩
theorem RSl.all_ {α : Type} {R : Rd α} {p : α → Prop} {w : World} {S : Nat → Prop} {v : Value} {l : List α} (h : RSl R w S v l) (hp : ∀ u x, R w S u x → p x) : ∀ x ∈ l, p x := by
  obtain ⟨A, c, hv, h1, h2, h3⟩ := h
  intro x hx
  obtain ⟨k, hk, rfl⟩ := List.getElem_of_mem hx
  obtain ⟨b, off, e, hb, hc⟩ := h3 (by omega)
  obtain ⟨u, hu, hR⟩ := hc k hk
  exact hp _ _ hR

/-- Variables of n cells each, in a row: P says what the one at a block and an offset holds. -/
abbrev RdV (α : Type) := World → (Nat → Prop) → Nat → Nat → α → Prop
def StableV {α : Type} (P : RdV α) : Prop := ∀ w w' S S' b o x, P w S b o x → S b → Ag S w w' → (∀ b, S b → S' b) → P w' S' b o x
def VCells {α : Type} (cells : α → List Value) : RdV α := fun w _ b o x => ∀ j u, (cells x)[j]? = some u → w.cell? ⟨b, o + j, none⟩ = some u
def RAtV {α : Type} (n : Nat) (P : RdV α) (w : World) (S : Nat → Prop) (A : Option Addr) (l : List α) : Prop :=
  0 < l.length → ∃ b off, A = some ⟨b, off, none⟩ ∧ S b ∧ ∀ k (h : k < l.length), P w S b (off + k * n) l[k]
def RArr {α : Type} (n : Nat) (P : RdV α) : Rd (List α) := fun w S v l =>
  ∃ A c, v = .slice A l.length c ∧ l.length ≤ c ∧ c ≤ maxLen ∧ RAtV n P w S A l
theorem VCells.stable {α : Type} (cells : α → List Value) : StableV (VCells cells) := fun _ _ _ _ b o _ h hb ha _ j u hu => (ha.cell (p := ⟨b, o + j, none⟩) hb).trans (h j u hu)
theorem RAtV.agree {α : Type} {n : Nat} {P : RdV α} (hs : StableV P) {w w' : World} {S S' : Nat → Prop} {A : Option Addr} {l : List α} (h : RAtV n P w S A l) (ha : Ag S w w') (hS : ∀ b, S b → S' b) : RAtV n P w' S' A l := by
  intro hp
  obtain ⟨b, off, e, hb, hc⟩ := h hp
  exact ⟨b, off, e, hS b hb, fun k hk => hs _ _ _ _ _ _ _ (hc k hk) hb ha hS⟩
theorem RArr.stable {α : Type} {n : Nat} {P : RdV α} (hs : StableV P) : Stable (RArr n P) := by
  rintro w w' S S' v l ⟨A, c, hv, h1, h2, h3⟩ ha hS
  exact ⟨A, c, hv, h1, h2, h3.agree hs ha hS⟩
theorem RArr.open_ {α : Type} {n : Nat} {P : RdV α} {w : World} {S : Nat → Prop} {v : Value} {l : List α} (h : RArr n P w S v l) :
    ∃ A c, v = .slice A l.length c ∧ l.length ≤ 9223372036854775807 ∧ RAtV n P w S A l := by
  obtain ⟨A, c, hv, h1, h2, h3⟩ := h
  unfold maxLen at h2
  exact ⟨A, c, hv, by omega, h3⟩
theorem RAtV.at_ {α : Type} {n : Nat} {P : RdV α} {w w' : World} {S : Nat → Prop} {k : Nat} {A : Option Addr} {l : List α} (h : RAtV n P w S A l)
    (hs : StableV P) (ha : Ag S w w') (hk : k < l.length) : ∃ b off, A = some ⟨b, off, none⟩ ∧ S b ∧ P w' S b (off + k * n) l[k] := by
  obtain ⟨b, off, e, hb, hc⟩ := h.agree hs ha (fun _ h => h) (by omega)
  exact ⟨b, off, e, hb, hc k hk⟩

/-! ### A row of the call's own -/
/-- What is known of an element type whose variables are one cell. -/
def Elem1 (P : Program) (t e : TypeId) (bytes : Nat) : Prop := P.underlying t = some (.slice e) ∧ bytes ≤ 64 ∧ ∃ i z, P.info? e = some i ∧ i.zero = some z ∧ i.size = 1 ∧ i.bytes = bytes ∧ z.cells.size = 1
theorem elem1_mk {P : Program} {t e : TypeId} {bytes : Nat} {z : Value} (h1 : P.underlying t = some (.slice e)) (h2 : (P.info? e).map (fun i => (i.zero, i.size, i.bytes)) = some (some z, 1, bytes)) (h3 : bytes ≤ 64) (h4 : z.cells.size = 1) : Elem1 P t e bytes := by
  obtain ⟨i0, hi, hz0, hz1, hz2⟩ := info_parts h2
  exact ⟨h1, h3, i0, z, hi, hz0, hz1, hz2, h4⟩
theorem own_shape {w : World} {base : Nat} {e : TypeId} {size : Nat} {v : Value} {n : Nat} {xs : List Value} (h : w.ownsRow base e size v n xs) : ∃ A k, v = .slice A n k := by
  rcases h.2 with ⟨rfl, h0⟩ | ⟨g', cap, cur, rfl, _⟩
  · exact ⟨none, 0, by rw [h0]⟩
  · exact ⟨_, _, rfl⟩
/-- An owned row as a reading. -/
theorem reads_of_own {α : Type} {R : Rd α} {w : World} {S : Nat → Prop} {base : Nat} {e : TypeId} {v : Value} {n : Nat} {xs : List Value} {l : List α} (h : w.ownsRow base e 1 v n xs)
    (hl : l.length = n) (hS : ∀ g, v.ownBlock = some g → S g) (hR : ∀ k (h : k < l.length) u, xs[k]? = some u → R w S u l[k]) : RSl R w S v l := by
  subst hl
  have hx : xs.length = l.length := by simpa using h.1
  rcases h.2 with ⟨rfl, h0⟩ | ⟨g, cap, cur, rfl, hg, hh, hnc, hm, hs, ht⟩
  · have : l = [] := List.eq_nil_of_length_eq_zero h0
    subst this
    exact RSl.nil_ _ _ _
  · refine ⟨some ⟨g, 0, none⟩, cap, rfl, hnc, hm, fun hp => ⟨g, 0, rfl, hS g rfl, fun k hk => ?_⟩⟩
    have hk' : k < xs.length := by omega
    have hc := h.cells (g := g) rfl k xs[k] (List.getElem?_eq_getElem hk')
    rw [add_none] at hc
    exact ⟨xs[k], hc, hR k hk _ (List.getElem?_eq_getElem hk')⟩
theorem ints_of_own {w : World} {S : Nat → Prop} {base : Nat} {e : TypeId} {v : Value} {l : List Int} (h : w.ownsRow base e 1 v l.length (l.map (Value.int .i64))) (hS : ∀ g, v.ownBlock = some g → S g) : RInts w S v l :=
  reads_of_own h rfl hS fun k hk u hu => by rw [List.getElem?_map, List.getElem?_eq_getElem hk] at hu; simpa [RInt, eq_comm] using hu
theorem bools_of_own {w : World} {S : Nat → Prop} {base : Nat} {e : TypeId} {v : Value} {l : List Bool} (h : w.ownsRow base e 1 v l.length (l.map Value.bool)) (hS : ∀ g, v.ownBlock = some g → S g) : RBools w S v l :=
  reads_of_own h rfl hS fun k hk u hu => by rw [List.getElem?_map, List.getElem?_eq_getElem hk] at hu; simpa [RBool, eq_comm] using hu
/-- append of one value, which lies alone in a block that was just made. -/
theorem wpList_push {P : Program} {w : World} {ops : Array Oper} {rest : List Oper} {o : Oper} {a : Act} {Q : Exit → Act → World → Prop} (hgd : o.guard = none) (s x : Operand) (t : TypeId)
    (ho : o.op = .call { callee := .builtin .append, args := #[s, x], argTypes := #[t, t] }) {base : Nat} {e : TypeId} {bytes : Nat} (he : Elem1 P t e bytes)
    {v : Value} {n : Nat} {xs : List Value} (hs : a.eval s = v) (hown : w.ownsRow base e 1 v n xs) (g : Nat) (u : Value) (hx : a.eval x = .slice (some ⟨g, 0, none⟩) 1 1)
    (hc : w.cell? ⟨g, 0, none⟩ = some u) (h1 : u.oneCell' = true) (hn : n < 1000000000000) (hbase : base ≤ w.heap.size)
    (h : ∀ v' w', w'.ownsRow base e 1 v' (n + 1) (xs ++ [u]) → w.grownBy w' v.ownBlock → (v'.ownBlock = v.ownBlock ∨ v'.ownBlock = some w.heap.size) → wpList P ops Q rest (a.put o.dst v') w') :
    wpList P ops Q (o :: rest) a w := by
  obtain ⟨ht, h64, i, z, hi, hz, hsz, hby, hzs⟩ := he
  refine wpList_append_own_at w hgd s x t ho base e i z 1 bytes ht hi hz hsz hby hzs (by omega) v n xs hs hown ⟨g, 0, none⟩ 1 1 [u] hx rfl ?_ ?_ ?_ ?_ hbase fun v' w' h2 h3 _ h5 => h v' w' h2 h3 h5
  · intro j u' hu
    match j with
    | 0 => simp at hu; subst hu; exact hc
    | j + 1 => simp at hu
  · intro u' hu; simp at hu; subst hu; exact h1
  · unfold maxLen; omega
  · have : (n + 1) * bytes ≤ 1000000000000 * 64 := Nat.mul_le_mul (by omega) h64
    omega

theorem run_makeN {P : Program} {t e : TypeId} {bytes : Nat} {z : Value} (h1 : P.underlying t = some (.slice e)) (h2 : (P.info? e).map (fun i => (i.zero, i.size, i.bytes)) = some (some z, 1, bytes)) (hb : bytes ≤ 64) (hz : z.cells = #[z])
    (n : Nat) (hn : n ≤ 1000000000000) (W : World) : (Instr.makeSlice t (.int .i64 (n : Int)) (.int .i64 (n : Int))).run P W = .ok (.slice (some ⟨W.heap.size, 0, none⟩) n n) (W.alloc (.cells (madeCells #[z] n) e)) := by
  obtain ⟨i, hi, hz0, hz1, hz2⟩ := info_parts h2
  have hbn : (i.bytes : Int) * (n : Int) ≤ 281474976710656 := by
    have h : i.bytes * n ≤ 64 * 1000000000000 := Nat.mul_le_mul (by omega) hn
    have h' : ((i.bytes * n : Nat) : Int) ≤ 281474976710656 := by omega
    rwa [Int.natCast_mul] at h'
  have hr := run_make (P := P) W t e i z h1 hi hz0 .i64 .i64 n n (by omega) (by omega) hbn (by omega)
  simp only [Int.toNat_natCast, hz1, Nat.mul_one, hz] at hr
  exact hr
theorem own_made (W : World) (e : TypeId) (z : Value) (n : Nat) (hn : n ≤ 1000000000000) : (W.alloc (.cells (madeCells #[z] n) e)).ownsRow W.heap.size e 1 (.slice (some ⟨W.heap.size, 0, none⟩) n n) n (List.replicate n z) := by
  have := World.ownsRow_lit (base := W.heap.size) (e := e) (size := 1) W (madeCells #[z] n) n (Nat.le_refl _) (by unfold maxLen; omega) (by simp [size_madeCells])
  rwa [toList_madeCells_one] at this

theorem ba_beq (a b : ByteArray) : (a.toList == b.toList) = decide (a = b) := by
  rw [ByteArray.toList_eq, ByteArray.toList_eq, Bool.eq_iff_iff]
  simp only [beq_iff_eq, decide_eq_true_eq]
  exact ⟨fun h => ByteArray.ext (Array.toList_inj.mp h), fun h => by rw [h]⟩

/-! ### The last step of a row -/
section
variable {H : Type} {enc : TypeId × Value → H} {P : Program}
theorem post_of_below {f : Func} {s : ChangeSpec} {apart fresh handsOn again : Bool} {W W' : World} {args : Array Value} {v : Value} {ds gs : List (DataW H)} {before pa pv : List MemPlace}
    (hW : DataW.Whole enc P f.params.toList s.vars apart W args.toList ds gs before)
    (hres : ∀ (b : Nat) (sp : Nat → Bool) (hd : Bool), DataW.TrodAll enc P W' b sp hd f.resultTypes.toList (v.resultList f.resultTypes.size) (s.fn H (ds ++ gs)).results [])
    (hargs : ∀ sp : Nat → Bool, (∀ p ∈ before, sp p.block = true) → DataW.TrodAll enc P W' 0 sp true f.params.toList args.toList (s.fn H (ds ++ gs)).args pa)
    (hvars : ∀ sp : Nat → Bool, (∀ p ∈ before, sp p.block = true) → DataW.TrodVars enc P W' sp s.vars (s.fn H (ds ++ gs)).vars pv)
    (hps : before = pa ++ pv) (hb : Below W.heap.size W W')
    (hok : ∀ (j : Nat) (t : TypeId) (r : Value), f.resultTypes[j]? = some t → (v.resultList f.resultTypes.size)[j]? = some r → Value.okWide P W' .any 0 t r) :
    s.post enc P f apart fresh handsOn again W args v W' := by
  have hlt : ∀ p ∈ before, p.block < W.heap.size := fun p hp => hW.lt p hp
  have hold : ∀ p ∈ before, (fun b => decide (b < W.heap.size)) p.block = true := fun p hp => by simpa using hlt p hp
  refine ⟨ds, gs, before, [], pa, pv, hW, hres _ _ _, hargs _ hold, hvars _ hold, World.keptBut_mono (fun p hp => ⟨hp, ?_⟩) (hb.frame (· ∈ before)), fun _ => ?_⟩
  · rw [hps, List.mem_append] at hp
    exact Or.inr hp
  · obtain ⟨_, _, _, _, _, hz, hn⟩ := hW
    refine ⟨hok, _, _, ([] ++ pa) ++ pv, ⟨[] ++ pa, pv, trodAll_append (hargs _ (fun _ _ => rfl)) (hres _ _ _), hvars _ (fun _ _ => rfl), rfl, ?_, ?_⟩, ?_⟩
    · intro b off hp
      have hin : MemPlace.cell b off ∈ before := by rw [hps]; simpa using hp
      rw [hb.frozen (hlt _ hin)]
      exact hz b off hin
    · intro ha
      have := hn ha
      rw [hps] at this
      simpa using this
    · intro p hp _
      rw [hps]
      simpa using hp
end

/-! ### Arguments that are read -/
/-- What a law is handed: a value of type t that reads as data, all of it below the heap's end. -/
def Arg (P : Program) (w : World) (t : TypeId) (v : Value) : Prop :=
  ∃ (H : Type) (enc : TypeId × Value → H) (base : Nat) (d : DataW H) (p : List MemPlace), Value.okWide P w .any base t v ∧ DataW.Trod enc P w 0 (fun _ => true) true t v d p ∧ ∀ x ∈ p, x.block < w.heap.size
/-- Every reading of a one-cell variable of type t gives R. -/
def Reads1 {α : Type} (P : Program) (t : TypeId) (R : Rd α) : Prop :=
  ∀ {H : Type} {enc : TypeId × Value → H} {w : World} {fuel : Nat} {cs : List Value} {x : DataW H × List MemPlace}, DataW.trod enc P w 0 (fun _ => true) true fuel t cs = some x →
    (∀ p ∈ x.2, p.block < w.heap.size) → ∃ v d, cs = [v] ∧ R w (Lt w.heap.size) v d
theorem reads1_int {P : Program} {t : TypeId} (ht : P.underlying t = some (.int .i64)) : Reads1 P t RIntW := fun h _ => by
  obtain ⟨n, h1, _, h3⟩ := DataW.trod_int ht h
  refine ⟨_, n, h1, rfl, ?_⟩
  simp [Lit.wf, IntKind.min, IntKind.max, IntKind.bits, IntKind.signed] at h3
  omega
theorem reads1_bool {P : Program} {t : TypeId} (ht : P.underlying t = some .bool) : Reads1 P t RBool := fun h _ => by
  obtain ⟨n, h1, _⟩ := DataW.trod_bool ht h
  exact ⟨_, n, h1, rfl⟩
def RStrW : Rd ByteArray := fun _ _ v s => v = .string s ∧ s.size ≤ maxLen
theorem RStrW.stable : Stable RStrW := fun _ _ _ _ _ _ h _ _ => h
theorem reads1_string {P : Program} {t : TypeId} (ht : P.underlying t = some .string) : Reads1 P t RStrW := fun h _ => by
  obtain ⟨s, h1, _, h3⟩ := DataW.trod_string ht h
  exact ⟨_, s, h1, rfl, h3⟩
theorem choose_list {α : Type} {n : Nat} {p : Nat → α → Prop} (h : ∀ i, i < n → ∃ x, p i x) : ∃ l : List α, l.length = n ∧ ∀ i (hi : i < l.length), p i l[i] := by
  induction n with
  | zero => exact ⟨[], rfl, fun i hi => absurd hi (by simp)⟩
  | succ n ih =>
    obtain ⟨l, hl, hp⟩ := ih fun i hi => h i (by omega)
    obtain ⟨x, hx⟩ := h n (by omega)
    refine ⟨l ++ [x], by simp [hl], fun i hi => ?_⟩
    rcases Nat.lt_or_ge i l.length with hlt | hge
    · rw [List.getElem_append_left hlt]; exact hp i hlt
    · have : i = l.length := by simp at hi; omega
      subst this
      simp [hl, hx]
theorem spot_none {w : World} {a : Addr} {v : Value} (h : w.cell? a = some v) : a = ⟨a.block, a.off, none⟩ := by
  obtain ⟨b, o, s⟩ := a
  cases s with
  | none => rfl
  | some s =>
    simp only [World.cell?] at h
    split at h <;> simp at h
theorem reads1_slice {α : Type} {P : Program} {t e : TypeId} {R : Rd α} (ht : P.underlying t = some (.slice e)) (hc1 : P.cellsOf e = 1) (hR : Reads1 P e R) : Reads1 P t (RSl R) := fun {H enc w fuel cs x} h hp => by
  rcases open_slice ht h with ⟨rfl, rfl⟩ | ⟨a, len, cap, m, n, D, Pl, rfl, _, hlc, hcm, hm, rfl, hat⟩
  · exact ⟨_, [], rfl, RSl.nil_ _ _ _⟩
  · simp only [if_true] at hm
    subst hm
    rw [hc1] at hat hp
    have hrow : ∀ i, i < m → ∃ v, w.cell? (a.add i) = some v ∧ ∃ d, R w (Lt w.heap.size) v d := by
      intro i hi
      obtain ⟨cs', hcs, htr⟩ := hat i hi
      obtain ⟨v, d, rfl, hRd⟩ := hR htr (fun p hp' => hp p (by simp only [List.mem_append, List.mem_flatMap, List.mem_range]; exact .inr ⟨i, hi, hp'⟩))
      obtain ⟨_, _, hcell⟩ := World.cells?_some hcs
      have := hcell 0 (by omega)
      refine ⟨v, ?_, d, hRd⟩
      simpa [Addr.add] using this
    obtain ⟨l, hl, hat'⟩ := choose_list (n := len) (p := fun i d => ∃ v, w.cell? (a.add i) = some v ∧ R w (Lt w.heap.size) v d) (fun i hi => by
      obtain ⟨v, hv, d, hd⟩ := hrow i (by omega)
      exact ⟨d, v, hv, hd⟩)
    refine ⟨_, l, rfl, some a, m, by rw [hl], by omega, hcm, fun hpos => ?_⟩
    obtain ⟨v, hv, _⟩ := hat' 0 hpos
    have hsp := spot_none (w := w) (a := a) (v := v) (by simpa [Addr.add] using hv)
    refine ⟨a.block, a.off, by rw [← hsp], ?_, fun k hk => ?_⟩
    · have := World.block_lt_of_cell? w _ hv
      simpa [Lt, block_of_add] using this
    · obtain ⟨u, hu, hRu⟩ := hat' k hk
      rw [hsp, add_none] at hu
      exact ⟨u, hu, hRu⟩
/-- An argument of one cell, read. -/
theorem Arg.read1 {α : Type} {P : Program} {w : World} {t : TypeId} {v : Value} {R : Rd α} (h : Arg P w t v) (hR : Reads1 P t R) (hv : ∀ cs, v ≠ .agg cs) : ∃ d, R w (Lt w.heap.size) v d := by
  obtain ⟨H, enc, base, d, p, _, ⟨fuel, hf⟩, hlt⟩ := h
  have hc : v.cells.toList = [v] := by cases v <;> first | rfl | exact absurd rfl (hv _)
  rw [hc] at hf
  obtain ⟨v', d', he, hRd⟩ := hR hf hlt
  simp at he
  exact ⟨d', he ▸ hRd⟩
end Go.Proofs.YtgfbmidpiamkhaaDoor
