/- Words for memory: a slice that reads as a list, an owned row that is pushed to, what a call leaves as it was; and the last step of a law's row. No function of the program is in sight. / The library's strings.Split, Count, stringslite.HasPrefix at this program: the shelf's contracts, laid. / Texts as byte arrays. Plain. / .. -/
import Derived.Test.YtgfbmidpiamkhaaDoorRows
import Derived.WalkKit
import Derived.WalkSpells
import Derived.WalkLawsBesides
import Derived.BigQuiet
import Derived.Deep.QuietTactic
import Derived.Deep.Draws
import Derived.Laws.OwnMore
import Derived.Deep.AppendLies
import Derived.Laws.Rows
import Derived.Maps.AppendAt
import Derived.Lib.Hide
import Derived.ProofKit
import Derived.Deep.Slices
import Derived.Carry
import Derived.Lib.SmallJoins
import Derived.Shelf.Strings.Split
import Derived.Shelf.Strings.Count
import Derived.Shelf.Strings.Prefix
import Derived.Lib.IndexMore
import Derived.Lib.Bytealg
namespace Go.Proofs.YtgfbmidpiamkhaaDoor
open Go.RowKit Go.ChangeShapes Go.WideShapes Go.ChangeAt Go.Deep

theorem block_of_add (a : Addr) (n : Nat) : (a.add n).block = a.block := by unfold Addr.add; split <;> rfl
theorem add_none (b o n : Nat) : (⟨b, o, none⟩ : Addr).add n = ⟨b, o + n, none⟩ := by unfold Addr.add; split <;> simp_all

/-! ### Sets of blocks, and worlds that agree on one -/
abbrev Lt (n : Nat) : Nat → Prop := fun b => b < n
def Ag (S : Nat → Prop) (w w' : World) : Prop := ∀ b, S b → w'.heap[b]? = w.heap[b]?
theorem Ag.refl (S : Nat → Prop) (w : World) : Ag S w w := fun _ _ => rfl
theorem Ag.trans {S : Nat → Prop} {a b c : World} (h : Ag S a b) (k : Ag S b c) : Ag S a c := fun i hi => (k i hi).trans (h i hi)
theorem Ag.sub {S T : Nat → Prop} {w w' : World} (h : Ag S w w') (hs : ∀ b, T b → S b) : Ag T w w' := fun b hb => h b (hs b hb)
theorem Ag.cell {S : Nat → Prop} {w w' : World} (h : Ag S w w') {p : Addr} (hp : S p.block) : w'.cell? p = w.cell? p := World.cell?_of_block (w := w) (h p.block hp)
theorem ag_of_below {B : Nat} {w w' : World} (h : Below B w w') : Ag (Lt B) w w' := fun b hb => h.block b hb
theorem ag_of_grown {w w' : World} {row : Option Nat} (h : w.grownBy w' row) : Ag (fun b => b < w.heap.size ∧ some b ≠ row) w w' := fun b hb => h.block b hb.1 hb.2
theorem ag_alloc (w : World) (o : Obj) : Ag (Lt w.heap.size) w (w.alloc o) := fun b hb => Below.heap_alloc w o b hb
theorem ag_setCell (w : World) (a : Addr) (u : Value) : Ag (fun b => b ≠ a.block) w (w.setCell a u) := fun b hb => Below.heap_setCell w a u b hb
theorem below_drewN {B : Nat} {a w : World} (h : Below B a w) (n : Nat) : Below B a (w.drewN n) := ⟨h.os, h.tape, h.output, h.size, h.block⟩
theorem bcell {W w1 : World} {B : Nat} (hb : Below B W w1) : (∀ b o, b < B → w1.cell? ⟨b, o, none⟩ = W.cell? ⟨b, o, none⟩) ∧ (∀ b o, b < B → w1.frozen? ⟨b, o, none⟩ = W.frozen? ⟨b, o, none⟩) :=
  ⟨fun b o h => hb.cell (p := ⟨b, o, none⟩) h, fun b o h => hb.frozen (p := ⟨b, o, none⟩) h⟩
theorem box_cell {w w1 : World} {cs : Array Value} {t : TypeId} (h : Below (w.alloc (.cells cs t)).heap.size (w.alloc (.cells cs t)) w1) (j : Nat) : w1.cell? ⟨w.heap.size, j, none⟩ = cs[j]? := by
  rw [h.cell (p := ⟨w.heap.size, j, none⟩) (by simp)]
  exact cell_of_row _ _ j cs t (0, 0) (heap_alloc_new w _)
theorem box2 {w w1 : World} {a b : Value} {t : TypeId} (h : Below (w.alloc (.cells #[a, b] t)).heap.size (w.alloc (.cells #[a, b] t)) w1) :
    w1.cell? ⟨w.heap.size, 0, none⟩ = some a ∧ w1.cell? ⟨w.heap.size, 1, none⟩ = some b := ⟨box_cell h 0, box_cell h 1⟩
theorem box3 {w w1 : World} {a b c : Value} {t : TypeId} (h : Below (w.alloc (.cells #[a, b, c] t)).heap.size (w.alloc (.cells #[a, b, c] t)) w1) :
    w1.cell? ⟨w.heap.size, 0, none⟩ = some a ∧ w1.cell? ⟨w.heap.size, 1, none⟩ = some b ∧ w1.cell? ⟨w.heap.size, 2, none⟩ = some c := ⟨box_cell h 0, box_cell h 1, box_cell h 2⟩
theorem box_a {w w1 : World} {cs ds : Array Value} {t u : TypeId} (h : Below ((w.alloc (.cells cs t)).alloc (.cells ds u)).heap.size ((w.alloc (.cells cs t)).alloc (.cells ds u)) w1) (j : Nat) : w1.cell? ⟨w.heap.size, j, none⟩ = cs[j]? := by
  rw [h.cell (p := ⟨w.heap.size, j, none⟩) (by simp; omega)]
  exact cell_of_row _ _ j cs t (0, 0) ((Below.heap_alloc _ _ _ (by simp)).trans (heap_alloc_new w _))
theorem box_b {w w1 : World} {cs ds : Array Value} {t u : TypeId} (h : Below ((w.alloc (.cells cs t)).alloc (.cells ds u)).heap.size ((w.alloc (.cells cs t)).alloc (.cells ds u)) w1) (j : Nat) : w1.cell? ⟨w.heap.size + 1, j, none⟩ = ds[j]? := by
  rw [h.cell (p := ⟨w.heap.size + 1, j, none⟩) (by simp)]
  have := heap_alloc_new (w.alloc (.cells cs t)) (.cells ds u)
  simp only [World.size_alloc] at this
  exact cell_of_row _ _ j ds u (0, 0) this
theorem box3_1 {w w1 : World} {a b c d : Value} {t u : TypeId} (h : Below ((w.alloc (.cells #[a, b, c] t)).alloc (.cells #[d] u)).heap.size ((w.alloc (.cells #[a, b, c] t)).alloc (.cells #[d] u)) w1) :
    w1.cell? ⟨w.heap.size, 0, none⟩ = some a ∧ w1.cell? ⟨w.heap.size, 1, none⟩ = some b ∧ w1.cell? ⟨w.heap.size, 2, none⟩ = some c ∧ w1.cell? ⟨w.heap.size + 1, 0, none⟩ = some d := ⟨box_a h 0, box_a h 1, box_a h 2, box_b h 0⟩
theorem ret_int {k : IntKind} {a b : Int} (h : a = b) : Ending.returned (.int k a) = .returned (.int k b) := by rw [h]
theorem ret_bool {a b : Bool} (h : a = b) : Ending.returned (.bool a) = .returned (.bool b) := by rw [h]

theorem heap_at_alloc {W : World} {o o' : Obj} {b : Nat} (h : W.heap[b]? = some o') : (W.alloc o).heap[b]? = some o' := (Below.heap_alloc W o b (Array.getElem?_eq_some_iff.1 h).1).trans h
theorem heap_new {W : World} {o : Obj} {b : Nat} (hb : b = W.heap.size) : (W.alloc o).heap[b]? = some o := by subst hb; exact heap_alloc_new W o

/-! ### Readings -/
abbrev Rd (α : Type) := World → (Nat → Prop) → Value → α → Prop
/-- A reading holds on in any world that agrees on its blocks. -/
def Stable {α : Type} (R : Rd α) : Prop := ∀ w w' S S' v x, R w S v x → Ag S w w' → (∀ b, S b → S' b) → R w' S' v x
/-- One-cell elements: where there is an element, the cells lie in a row in a block of S. -/
def RAt {α : Type} (R : Rd α) (w : World) (S : Nat → Prop) (A : Option Addr) (l : List α) : Prop :=
  0 < l.length → ∃ b off, A = some ⟨b, off, none⟩ ∧ S b ∧ ∀ k (h : k < l.length), ∃ u, w.cell? ⟨b, off + k, none⟩ = some u ∧ R w S u l[k]
/-- The slice value v reads as the list l. -/
def RSl {α : Type} (R : Rd α) : Rd (List α) := fun w S v l =>
  ∃ A c, v = .slice A l.length c ∧ l.length ≤ c ∧ c ≤ maxLen ∧ RAt R w S A l
def RInt : Rd Int := fun _ _ v n => v = .int .i64 n
def RIntW : Rd Int := fun _ _ v n => v = .int .i64 n ∧ -9223372036854775808 ≤ n ∧ n ≤ 9223372036854775807
def RBool : Rd Bool := fun _ _ v b => v = .bool b
def RStr : Rd ByteArray := fun _ _ v s => v = .string s
abbrev RInts := RSl RInt
abbrev RBools := RSl RBool
abbrev RStrs := RSl RStr
abbrev RIntss := RSl RInts
abbrev RIntsss := RSl RIntss
theorem RInt.stable : Stable RInt := fun _ _ _ _ _ _ h _ _ => h
theorem RIntW.stable : Stable RIntW := fun _ _ _ _ _ _ h _ _ => h
theorem RBool.stable : Stable RBool := fun _ _ _ _ _ _ h _ _ => h
theorem RStr.stable : Stable RStr := fun _ _ _ _ _ _ h _ _ => h
theorem RAt.agree {α : Type} {R : Rd α} (hs : Stable R) {w w' : World} {S S' : Nat → Prop} {A : Option Addr} {l : List α} (h : RAt R w S A l) (ha : Ag S w w') (hS : ∀ b, S b → S' b) : RAt R w' S' A l := by
  intro hp
  obtain ⟨b, off, e, hb, hc⟩ := h hp
  refine ⟨b, off, e, hS b hb, fun k hk => ?_⟩
  obtain ⟨u, hu, hR⟩ := hc k hk
  exact ⟨u, (ha.cell (p := ⟨b, off + k, none⟩) hb).trans hu, hs _ _ _ _ _ _ hR ha hS⟩
theorem RSl.stable {α : Type} {R : Rd α} (hs : Stable R) : Stable (RSl R) := by
  rintro w w' S S' v l ⟨A, c, hv, h1, h2, h3⟩ ha hS
  exact ⟨A, c, hv, h1, h2, h3.agree hs ha hS⟩
theorem RInts.stable : Stable RInts := RSl.stable RInt.stable
theorem RIntss.stable : Stable RIntss := RSl.stable RInts.stable
theorem RIntsss.stable : Stable RIntsss := RSl.stable RIntss.stable
theorem RBools.stable : Stable RBools := RSl.stable RBool.stable
theorem RStrs.stable : Stable RStrs := RSl.stable RStr.stable
theorem Stable.agree {α : Type} {R : Rd α} (hs : Stable R) {w w' : World} {S : Nat → Prop} {v : Value} {x : α} (h : R w S v x) (ha : Ag S w w') : R w' S v x := hs _ _ _ _ _ _ h ha fun _ h => h
theorem Stable.below {α : Type} {R : Rd α} (hs : Stable R) {w w' : World} {B : Nat} {v : Value} {x : α} (h : R w (Lt B) v x) (hb : Below B w w') : R w' (Lt B) v x := hs.agree h (ag_of_below hb)
theorem Stable.sub {α : Type} {R : Rd α} (hs : Stable R) {w : World} {S S' : Nat → Prop} {v : Value} {x : α} (h : R w S v x) (hS : ∀ b, S b → S' b) : R w S' v x := hs _ _ _ _ _ _ h (Ag.refl _ _) hS
theorem below_alloc (w : World) (o : Obj) : Below w.heap.size w (w.alloc o) := (Below.refl _ _).alloc (Nat.le_refl _) o
theorem Stable.up {α : Type} {R : Rd α} (hs : Stable R) {w w' : World} {v : Value} {x : α} (h : R w (Lt w.heap.size) v x) (hb : Below w.heap.size w w') : R w' (Lt w'.heap.size) v x :=
  hs _ _ _ _ _ _ h (ag_of_below hb) fun b (hlt : b < _) => (Nat.lt_of_lt_of_le hlt hb.size : b < _)
theorem RSl.open_ {α : Type} {R : Rd α} {w : World} {S : Nat → Prop} {v : Value} {l : List α} (h : RSl R w S v l) :
    ∃ A c, v = .slice A l.length c ∧ l.length ≤ 9223372036854775807 ∧ RAt R w S A l := by
  obtain ⟨A, c, hv, h1, h2, h3⟩ := h
  unfold maxLen at h2
  exact ⟨A, c, hv, by omega, h3⟩
theorem RAt.at_ {α : Type} {R : Rd α} {w w' : World} {S : Nat → Prop} {k : Nat} {A : Option Addr} {l : List α} (h : RAt R w S A l)
    (hs : Stable R) (ha : Ag S w w') (hk : k < l.length) : ∃ b off u, A = some ⟨b, off, none⟩ ∧ S b ∧ w'.cell? ⟨b, off + k, none⟩ = some u ∧ R w' S u l[k] := by
  obtain ⟨b, off, e, hb, hc⟩ := h.agree hs ha (fun _ h => h) (by omega)
  obtain ⟨u, hu, hR⟩ := hc k hk
  exact ⟨b, off, u, e, hb, hu, hR⟩
theorem RAt.lt_ {α : Type} {R : Rd α} {w : World} {n : Nat} {k : Nat} {A : Option Addr} {l : List α} (h : RAt R w (Lt n) A l) (hk : k < l.length) :
    ∃ b off u, A = some ⟨b, off, none⟩ ∧ b < n ∧ w.cell? ⟨b, off + k, none⟩ = some u ∧ R w (Lt n) u l[k] := by
  obtain ⟨b, off, e, hb, hc⟩ := h (by omega)
  obtain ⟨u, hu, hR⟩ := hc k hk
  exact ⟨b, off, u, e, hb, hu, hR⟩
theorem RAt.again {α : Type} {R : Rd α} {w : World} {S : Nat → Prop} {b off k : Nat} {l : List α} (h : RAt R w S (some ⟨b, off, none⟩) l) (hk : k < l.length) :
    ∃ u, w.cell? ⟨b, off + k, none⟩ = some u ∧ R w S u l[k] := by
  obtain ⟨b', off', e, hb, hc⟩ := h (by omega)
  simp only [Option.some.injEq, Addr.mk.injEq, and_true] at e
  obtain ⟨rfl, rfl⟩ := e
  exact hc k hk
theorem RSl.nil_ {α : Type} (R : Rd α) (w : World) (S : Nat → Prop) : RSl R w S (.slice none 0 0) [] := ⟨none, 0, rfl, Nat.le_refl _, Nat.zero_le _, fun h => absurd h (by simp)⟩
theorem RSl.map_ {α : Type} {R R' : Rd α} {w : World} {S : Nat → Prop} {v : Value} {l : List α} (h : RSl R w S v l) (hm : ∀ u x, x ∈ l → R w S u x → R' w S u x) : RSl R' w S v l := by
  obtain ⟨A, c, hv, h1, h2, h3⟩ := h
  refine ⟨A, c, hv, h1, h2, fun hp => ?_⟩
  obtain ⟨b, off, e, hb, hc⟩ := h3 hp
  refine ⟨b, off, e, hb, fun k hk => ?_⟩
  obtain ⟨u, hu, hR⟩ := hc k hk
  exact ⟨u, hu, hm _ _ (List.getElem_mem hk) hR⟩
theorem RSl.all_ {α : Type} {R : Rd α} {p : α → Prop} {w : World} {S : Nat → Prop} {v : Value} {l : List α} (h : RSl R w S v l) (hp : ∀ u x, R w S u x → p x) : ∀ x ∈ l, p x := by
  obtain ⟨A, c, hv, h1, h2, h3⟩ := h
  intro x hx
  obtain ⟨k, hk, rfl⟩ := List.getElem_of_mem hx
  obtain ⟨b, off, e, hb, hc⟩ := h3 (by omega)
  obtain ⟨u, hu, hR⟩ := hc k hk
  exact hp _ _ hR

/-- Variables of n cells each, in a row: P says what the one at a block and an offset holds. -/
abbrev RdV (α : Type) := World → (Nat → Prop) → Nat → Nat → α → Prop
def StableV {α : Type} (P : RdV α) : Prop := ∀ w w' S S' b o x, P w S b o x → S b → Ag S w w' → (∀ b, S b → S' b) → P w' S' b o x
def VCells {α : Type} (cells : α → List Value) : RdV α := fun w _ b o x => ∀ j u, (cells x)[j]? = some u → w.cell? ⟨b, o + j, none⟩ = some u
def RAtV {α : Type} (n : Nat) (P : RdV α) (w : World) (S : Nat → Prop) (A : Option Addr) (l : List α) : Prop :=
  0 < l.length → ∃ b off, A = some ⟨b, off, none⟩ ∧ S b ∧ ∀ k (h : k < l.length), P w S b (off + k * n) l[k]
def RArr {α : Type} (n : Nat) (P : RdV α) : Rd (List α) := fun w S v l =>
  ∃ A c, v = .slice A l.length c ∧ l.length ≤ c ∧ c ≤ maxLen ∧ RAtV n P w S A l
theorem VCells.stable {α : Type} (cells : α → List Value) : StableV (VCells cells) := fun _ _ _ _ b o _ h hb ha _ j u hu => (ha.cell (p := ⟨b, o + j, none⟩) hb).trans (h j u hu)
theorem RAtV.agree {α : Type} {n : Nat} {P : RdV α} (hs : StableV P) {w w' : World} {S S' : Nat → Prop} {A : Option Addr} {l : List α} (h : RAtV n P w S A l) (ha : Ag S w w') (hS : ∀ b, S b → S' b) : RAtV n P w' S' A l := by
  intro hp
  obtain ⟨b, off, e, hb, hc⟩ := h hp
  exact ⟨b, off, e, hS b hb, fun k hk => hs _ _ _ _ _ _ _ (hc k hk) hb ha hS⟩
theorem RArr.stable {α : Type} {n : Nat} {P : RdV α} (hs : StableV P) : Stable (RArr n P) := by
  rintro w w' S S' v l ⟨A, c, hv, h1, h2, h3⟩ ha hS
  exact ⟨A, c, hv, h1, h2, h3.agree hs ha hS⟩
theorem RArr.open_ {α : Type} {n : Nat} {P : RdV α} {w : World} {S : Nat → Prop} {v : Value} {l : List α} (h : RArr n P w S v l) :
    ∃ A c, v = .slice A l.length c ∧ l.length ≤ 9223372036854775807 ∧ RAtV n P w S A l := by
  obtain ⟨A, c, hv, h1, h2, h3⟩ := h
  unfold maxLen at h2
  exact ⟨A, c, hv, by omega, h3⟩
theorem RAtV.at_ {α : Type} {n : Nat} {P : RdV α} {w w' : World} {S : Nat → Prop} {k : Nat} {A : Option Addr} {l : List α} (h : RAtV n P w S A l)
    (hs : StableV P) (ha : Ag S w w') (hk : k < l.length) : ∃ b off, A = some ⟨b, off, none⟩ ∧ S b ∧ P w' S b (off + k * n) l[k] := by
  obtain ⟨b, off, e, hb, hc⟩ := h.agree hs ha (fun _ h => h) (by omega)
  exact ⟨b, off, e, hb, hc k hk⟩

/-! ### A row of the call's own -/
/-- What is known of an element type whose variables are one cell. -/
def Elem1 (P : Program) (t e : TypeId) (bytes : Nat) : Prop := P.underlying t = some (.slice e) ∧ bytes ≤ 64 ∧ ∃ i z, P.info? e = some i ∧ i.zero = some z ∧ i.size = 1 ∧ i.bytes = bytes ∧ z.cells.size = 1
theorem elem1_mk {P : Program} {t e : TypeId} {bytes : Nat} {z : Value} (h1 : P.underlying t = some (.slice e)) (h2 : (P.info? e).map (fun i => (i.zero, i.size, i.bytes)) = some (some z, 1, bytes)) (h3 : bytes ≤ 64) (h4 : z.cells.size = 1) : Elem1 P t e bytes := by
  obtain ⟨i0, hi, hz0, hz1, hz2⟩ := info_parts h2
  exact ⟨h1, h3, i0, z, hi, hz0, hz1, hz2, h4⟩
theorem own_shape {w : World} {base : Nat} {e : TypeId} {size : Nat} {v : Value} {n : Nat} {xs : List Value} (h : w.ownsRow base e size v n xs) : ∃ A k, v = .slice A n k := by
  rcases h.2 with ⟨rfl, h0⟩ | ⟨g', cap, cur, rfl, _⟩
  · exact ⟨none, 0, by rw [h0]⟩
  · exact ⟨_, _, rfl⟩
/-- An owned row as a reading. -/
theorem reads_of_own {α : Type} {R : Rd α} {w : World} {S : Nat → Prop} {base : Nat} {e : TypeId} {v : Value} {n : Nat} {xs : List Value} {l : List α} (h : w.ownsRow base e 1 v n xs)
    (hl : l.length = n) (hS : ∀ g, v.ownBlock = some g → S g) (hR : ∀ k (h : k < l.length) u, xs[k]? = some u → R w S u l[k]) : RSl R w S v l := by
  subst hl
  have hx : xs.length = l.length := by simpa using h.1
  rcases h.2 with ⟨rfl, h0⟩ | ⟨g, cap, cur, rfl, hg, hh, hnc, hm, hs, ht⟩
  · have : l = [] := List.eq_nil_of_length_eq_zero h0
    subst this
    exact RSl.nil_ _ _ _
  · refine ⟨some ⟨g, 0, none⟩, cap, rfl, hnc, hm, fun hp => ⟨g, 0, rfl, hS g rfl, fun k hk => ?_⟩⟩
    have hk' : k < xs.length := by omega
    have hc := h.cells (g := g) rfl k xs[k] (List.getElem?_eq_getElem hk')
    rw [add_none] at hc
    exact ⟨xs[k], hc, hR k hk _ (List.getElem?_eq_getElem hk')⟩
theorem ints_of_own {w : World} {S : Nat → Prop} {base : Nat} {e : TypeId} {v : Value} {l : List Int} (h : w.ownsRow base e 1 v l.length (l.map (Value.int .i64))) (hS : ∀ g, v.ownBlock = some g → S g) : RInts w S v l :=
  reads_of_own h rfl hS fun k hk u hu => by rw [List.getElem?_map, List.getElem?_eq_getElem hk] at hu; simpa [RInt, eq_comm] using hu
theorem bools_of_own {w : World} {S : Nat → Prop} {base : Nat} {e : TypeId} {v : Value} {l : List Bool} (h : w.ownsRow base e 1 v l.length (l.map Value.bool)) (hS : ∀ g, v.ownBlock = some g → S g) : RBools w S v l :=
  reads_of_own h rfl hS fun k hk u hu => by rw [List.getElem?_map, List.getElem?_eq_getElem hk] at hu; simpa [RBool, eq_comm] using hu
/-- append of one value, which lies alone in a block that was just made. -/
theorem wpList_push {P : Program} {w : World} {ops : Array Oper} {rest : List Oper} {o : Oper} {a : Act} {Q : Exit → Act → World → Prop} (hgd : o.guard = none) (s x : Operand) (t : TypeId)
    (ho : o.op = .call { callee := .builtin .append, args := #[s, x], argTypes := #[t, t] }) {base : Nat} {e : TypeId} {bytes : Nat} (he : Elem1 P t e bytes)
    {v : Value} {n : Nat} {xs : List Value} (hs : a.eval s = v) (hown : w.ownsRow base e 1 v n xs) (g : Nat) (u : Value) (hx : a.eval x = .slice (some ⟨g, 0, none⟩) 1 1)
    (hc : w.cell? ⟨g, 0, none⟩ = some u) (h1 : u.oneCell' = true) (hn : n < 1000000000000) (hbase : base ≤ w.heap.size)
    (h : ∀ v' w', w'.ownsRow base e 1 v' (n + 1) (xs ++ [u]) → w.grownBy w' v.ownBlock → (v'.ownBlock = v.ownBlock ∨ v'.ownBlock = some w.heap.size) → wpList P ops Q rest (a.put o.dst v') w') :
    wpList P ops Q (o :: rest) a w := by
  obtain ⟨ht, h64, i, z, hi, hz, hsz, hby, hzs⟩ := he
  refine wpList_append_own_at w hgd s x t ho base e i z 1 bytes ht hi hz hsz hby hzs (by omega) v n xs hs hown ⟨g, 0, none⟩ 1 1 [u] hx rfl ?_ ?_ ?_ ?_ hbase fun v' w' h2 h3 _ h5 => h v' w' h2 h3 h5
  · intro j u' hu
    match j with
    | 0 => simp at hu; subst hu; exact hc
    | j + 1 => simp at hu
  · intro u' hu; simp at hu; subst hu; exact h1
  · unfold maxLen; omega
  · have : (n + 1) * bytes ≤ 1000000000000 * 64 := Nat.mul_le_mul (by omega) h64
    omega

theorem run_makeN {P : Program} {t e : TypeId} {bytes : Nat} {z : Value} (h1 : P.underlying t = some (.slice e)) (h2 : (P.info? e).map (fun i => (i.zero, i.size, i.bytes)) = some (some z, 1, bytes)) (hb : bytes ≤ 64) (hz : z.cells = #[z])
    (n : Nat) (hn : n ≤ 1000000000000) (W : World) : (Instr.makeSlice t (.int .i64 (n : Int)) (.int .i64 (n : Int))).run P W = .ok (.slice (some ⟨W.heap.size, 0, none⟩) n n) (W.alloc (.cells (madeCells #[z] n) e)) := by
  obtain ⟨i, hi, hz0, hz1, hz2⟩ := info_parts h2
  have hbn : (i.bytes : Int) * (n : Int) ≤ 281474976710656 := by
    have h : i.bytes * n ≤ 64 * 1000000000000 := Nat.mul_le_mul (by omega) hn
    have h' : ((i.bytes * n : Nat) : Int) ≤ 281474976710656 := by omega
    rwa [Int.natCast_mul] at h'
  have hr := run_make (P := P) W t e i z h1 hi hz0 .i64 .i64 n n (by omega) (by omega) hbn (by omega)
  simp only [Int.toNat_natCast, hz1, Nat.mul_one, hz] at hr
  exact hr
theorem own_made (W : World) (e : TypeId) (z : Value) (n : Nat) (hn : n ≤ 1000000000000) : (W.alloc (.cells (madeCells #[z] n) e)).ownsRow W.heap.size e 1 (.slice (some ⟨W.heap.size, 0, none⟩) n n) n (List.replicate n z) := by
  have := World.ownsRow_lit (base := W.heap.size) (e := e) (size := 1) W (madeCells #[z] n) n (Nat.le_refl _) (by unfold maxLen; omega) (by simp [size_madeCells])
  rwa [toList_madeCells_one] at this

theorem ba_beq (a b : ByteArray) : (a.toList == b.toList) = decide (a = b) := by
  rw [ByteArray.toList_eq, ByteArray.toList_eq, Bool.eq_iff_iff]
  simp only [beq_iff_eq, decide_eq_true_eq]
  exact ⟨fun h => ByteArray.ext (Array.toList_inj.mp h), fun h => by rw [h]⟩

/-! ### The last step of a row -/
section
variable {H : Type} {enc : TypeId × Value → H} {P : Program}
theorem post_of_below {f : Func} {s : ChangeSpec} {apart fresh handsOn again : Bool} {W W' : World} {args : Array Value} {v : Value} {ds gs : List (DataW H)} {before pa pv : List MemPlace}
    (hW : DataW.Whole enc P f.params.toList s.vars apart W args.toList ds gs before)
    (hres : ∀ (b : Nat) (sp : Nat → Bool) (hd : Bool), DataW.TrodAll enc P W' b sp hd f.resultTypes.toList (v.resultList f.resultTypes.size) (s.fn H (ds ++ gs)).results [])
    (hargs : ∀ sp : Nat → Bool, (∀ p ∈ before, sp p.block = true) → DataW.TrodAll enc P W' 0 sp true f.params.toList args.toList (s.fn H (ds ++ gs)).args pa)
    (hvars : ∀ sp : Nat → Bool, (∀ p ∈ before, sp p.block = true) → DataW.TrodVars enc P W' sp s.vars (s.fn H (ds ++ gs)).vars pv)
    (hps : before = pa ++ pv) (hb : Below W.heap.size W W')
    (hok : ∀ (j : Nat) (t : TypeId) (r : Value), f.resultTypes[j]? = some t → (v.resultList f.resultTypes.size)[j]? = some r → Value.okWide P W' .any 0 t r) :
    s.post enc P f apart fresh handsOn again W args v W' := by
  have hlt : ∀ p ∈ before, p.block < W.heap.size := fun p hp => hW.lt p hp
  have hold : ∀ p ∈ before, (fun b => decide (b < W.heap.size)) p.block = true := fun p hp => by simpa using hlt p hp
  refine ⟨ds, gs, before, [], pa, pv, hW, hres _ _ _, hargs _ hold, hvars _ hold, World.keptBut_mono (fun p hp => ⟨hp, ?_⟩) (hb.frame (· ∈ before)), fun _ => ?_⟩
  · rw [hps, List.mem_append] at hp
    exact Or.inr hp
  · obtain ⟨_, _, _, _, _, hz, hn⟩ := hW
    refine ⟨hok, _, _, ([] ++ pa) ++ pv, ⟨[] ++ pa, pv, trodAll_append (hargs _ (fun _ _ => rfl)) (hres _ _ _), hvars _ (fun _ _ => rfl), rfl, ?_, ?_⟩, ?_⟩
    · intro b off hp
      have hin : MemPlace.cell b off ∈ before := by rw [hps]; simpa using hp
      rw [hb.frozen (hlt _ hin)]
      exact hz b off hin
    · intro ha
      have := hn ha
      rw [hps] at this
      simpa using this
    · intro p hp _
      rw [hps]
      simpa using hp
end

/-! ### Arguments that are read -/
/-- What a law is handed: a value of type t that reads as data, all of it below the heap's end. -/
def Arg (P : Program) (w : World) (t : TypeId) (v : Value) : Prop :=
  ∃ (H : Type) (enc : TypeId × Value → H) (base : Nat) (d : DataW H) (p : List MemPlace), Value.okWide P w .any base t v ∧ DataW.Trod enc P w 0 (fun _ => true) true t v d p ∧ ∀ x ∈ p, x.block < w.heap.size
/-- Every reading of a one-cell variable of type t gives R. -/
def Reads1 {α : Type} (P : Program) (t : TypeId) (R : Rd α) : Prop :=
  ∀ {H : Type} {enc : TypeId × Value → H} {w : World} {fuel : Nat} {cs : List Value} {x : DataW H × List MemPlace}, DataW.trod enc P w 0 (fun _ => true) true fuel t cs = some x →
    (∀ p ∈ x.2, p.block < w.heap.size) → ∃ v d, cs = [v] ∧ R w (Lt w.heap.size) v d
theorem reads1_int {P : Program} {t : TypeId} (ht : P.underlying t = some (.int .i64)) : Reads1 P t RIntW := fun h _ => by
  obtain ⟨n, h1, _, h3⟩ := DataW.trod_int ht h
  refine ⟨_, n, h1, rfl, ?_⟩
  simp [Lit.wf, IntKind.min, IntKind.max, IntKind.bits, IntKind.signed] at h3
  omega
theorem reads1_bool {P : Program} {t : TypeId} (ht : P.underlying t = some .bool) : Reads1 P t RBool := fun h _ => by
  obtain ⟨n, h1, _⟩ := DataW.trod_bool ht h
  exact ⟨_, n, h1, rfl⟩
def RStrW : Rd ByteArray := fun _ _ v s => v = .string s ∧ s.size ≤ maxLen
theorem RStrW.stable : Stable RStrW := fun _ _ _ _ _ _ h _ _ => h
theorem reads1_string {P : Program} {t : TypeId} (ht : P.underlying t = some .string) : Reads1 P t RStrW := fun h _ => by
  obtain ⟨s, h1, _, h3⟩ := DataW.trod_string ht h
  exact ⟨_, s, h1, rfl, h3⟩
theorem choose_list {α : Type} {n : Nat} {p : Nat → α → Prop} (h : ∀ i, i < n → ∃ x, p i x) : ∃ l : List α, l.length = n ∧ ∀ i (hi : i < l.length), p i l[i] := by
  induction n with
  | zero => exact ⟨[], rfl, fun i hi => absurd hi (by simp)⟩
  | succ n ih =>
    obtain ⟨l, hl, hp⟩ := ih fun i hi => h i (by omega)
    obtain ⟨x, hx⟩ := h n (by omega)
    refine ⟨l ++ [x], by simp [hl], fun i hi => ?_⟩
    rcases Nat.lt_or_ge i l.length with hlt | hge
    · rw [List.getElem_append_left hlt]; exact hp i hlt
    · have : i = l.length := by simp at hi; omega
      subst this
      simp [hl, hx]
theorem spot_none {w : World} {a : Addr} {v : Value} (h : w.cell? a = some v) : a = ⟨a.block, a.off, none⟩ := by
  obtain ⟨b, o, s⟩ := a
  cases s with
  | none => rfl
  | some s =>
    simp only [World.cell?] at h
    split at h <;> simp at h
theorem reads1_slice {α : Type} {P : Program} {t e : TypeId} {R : Rd α} (ht : P.underlying t = some (.slice e)) (hc1 : P.cellsOf e = 1) (hR : Reads1 P e R) : Reads1 P t (RSl R) := fun {H enc w fuel cs x} h hp => by
  rcases open_slice ht h with ⟨rfl, rfl⟩ | ⟨a, len, cap, m, n, D, Pl, rfl, _, hlc, hcm, hm, rfl, hat⟩
  · exact ⟨_, [], rfl, RSl.nil_ _ _ _⟩
  · simp only [if_true] at hm
    subst hm
    rw [hc1] at hat hp
    have hrow : ∀ i, i < m → ∃ v, w.cell? (a.add i) = some v ∧ ∃ d, R w (Lt w.heap.size) v d := by
      intro i hi
      obtain ⟨cs', hcs, htr⟩ := hat i hi
      obtain ⟨v, d, rfl, hRd⟩ := hR htr (fun p hp' => hp p (by simp only [List.mem_append, List.mem_flatMap, List.mem_range]; exact .inr ⟨i, hi, hp'⟩))
      obtain ⟨_, _, hcell⟩ := World.cells?_some hcs
      have := hcell 0 (by omega)
      refine ⟨v, ?_, d, hRd⟩
      simpa [Addr.add] using this
    obtain ⟨l, hl, hat'⟩ := choose_list (n := len) (p := fun i d => ∃ v, w.cell? (a.add i) = some v ∧ R w (Lt w.heap.size) v d) (fun i hi => by
      obtain ⟨v, hv, d, hd⟩ := hrow i (by omega)
      exact ⟨d, v, hv, hd⟩)
    refine ⟨_, l, rfl, some a, m, by rw [hl], by omega, hcm, fun hpos => ?_⟩
    obtain ⟨v, hv, _⟩ := hat' 0 hpos
    have hsp := spot_none (w := w) (a := a) (v := v) (by simpa [Addr.add] using hv)
    refine ⟨a.block, a.off, by rw [← hsp], ?_, fun k hk => ?_⟩
    · have := World.block_lt_of_cell? w _ hv
      simpa [Lt, block_of_add] using this
    · obtain ⟨u, hu, hRu⟩ := hat' k hk
      rw [hsp, add_none] at hu
      exact ⟨u, hu, hRu⟩
/-- An argument of one cell, read. -/
theorem Arg.read1 {α : Type} {P : Program} {w : World} {t : TypeId} {v : Value} {R : Rd α} (h : Arg P w t v) (hR : Reads1 P t R) (hv : ∀ cs, v ≠ .agg cs) : ∃ d, R w (Lt w.heap.size) v d := by
  obtain ⟨H, enc, base, d, p, _, ⟨fuel, hf⟩, hlt⟩ := h
  have hc : v.cells.toList = [v] := by cases v <;> first | rfl | exact absurd rfl (hv _)
  rw [hc] at hf
  obtain ⟨v', d', he, hRd⟩ := hR hf hlt
  simp at he
  exact ⟨d', he ▸ hRd⟩
end Go.Proofs.YtgfbmidpiamkhaaDoor

namespace Go.Proofs.YtgfbmidpiamkhaaDoor
open Go.Shelf Go.RowKit
def laySp_ren : Go.Shelf.Ren := ⟨fun | 138 => 51 | 143 => 61 | 146 => 47 | 195 => 59 | 197 => 66 | 217 => 67 | 218 => 60 | 219 => 65 | 221 => 56 | 224 => 69 | 225 => 68 | 260 => 71 | 266 => 72 | 267 => 70 | 268 => 63 | 314 => 73 | n => n, fun | 0 => 0 | 3 => 3 | 4 => 4 | 5 => 5 | 9 => 9 | 21 => 21 | 31 => 64 | 46 => 25 | 51 => 115 | 105 => 112 | 119 => 118 | 138 => 120 | 139 => 121 | 146 => 116 | n => n, fun | 1 => 0 | 3 => 1 | 4 => 2 | n => n⟩
set_option maxRecDepth 100000 in
theorem laySp : Go.Proofs.Lays.n146 Tryd.prog laySp_ren := {
  mixed := by kernel_rfl
  f138 := Tryd.func51.trans (congrArg some (by kernel_rfl))
  f143 := Tryd.func61.trans (congrArg some (by kernel_rfl))
  f146 := Tryd.func47.trans (congrArg some (by kernel_rfl))
  f195 := Tryd.func59.trans (congrArg some (by kernel_rfl))
  f197 := Tryd.func66.trans (congrArg some (by kernel_rfl))
  f217 := Tryd.func67.trans (congrArg some (by kernel_rfl))
  f218 := Tryd.func60.trans (congrArg some (by kernel_rfl))
  f219 := Tryd.func65.trans (congrArg some (by kernel_rfl))
  f221 := Tryd.func56.trans (congrArg some (by kernel_rfl))
  f224 := Tryd.func69.trans (congrArg some (by kernel_rfl))
  f225 := Tryd.func68.trans (congrArg some (by kernel_rfl))
  f260 := Tryd.func71.trans (congrArg some (by kernel_rfl))
  f266 := Tryd.func72.trans (congrArg some (by kernel_rfl))
  f267 := Tryd.func70.trans (congrArg some (by kernel_rfl))
  f268 := Tryd.func63.trans (congrArg some (by kernel_rfl))
  f314 := Tryd.func73.trans (congrArg some (by kernel_rfl))
  t0 := Tryd.underlying0
  a0 := Tryd.isAgg0
  z0 := Tryd.sizeOf0
  v0 := Tryd.zeroValue0
  t3 := Tryd.underlying3
  a3 := Tryd.isAgg3
  z3 := Tryd.sizeOf3
  v3 := Tryd.zeroValue3
  t4 := Tryd.underlying4
  a4 := Tryd.isAgg4
  z4 := Tryd.sizeOf4
  v4 := Tryd.zeroValue4
  t5 := Tryd.underlying5
  a5 := Tryd.isAgg5
  z5 := Tryd.sizeOf5
  v5 := Tryd.zeroValue5
  t9 := Tryd.underlying9
  a9 := Tryd.isAgg9
  z9 := Tryd.sizeOf9
  v9 := Tryd.zeroValue9
  t21 := Tryd.underlying21
  a21 := Tryd.isAgg21
  z21 := Tryd.sizeOf21
  v21 := Tryd.zeroValue21
  t31 := Tryd.underlying64
  a31 := Tryd.isAgg64
  z31 := Tryd.sizeOf64
  v31 := Tryd.zeroValue64
  t46 := Tryd.underlying25
  a46 := Tryd.isAgg25
  z46 := Tryd.sizeOf25
  v46 := Tryd.zeroValue25
  t51 := Tryd.underlying115
  a51 := Tryd.isAgg115
  z51 := Tryd.sizeOf115
  v51 := Tryd.zeroValue115
  t105 := Tryd.underlying112
  a105 := Tryd.isAgg112
  z105 := Tryd.sizeOf112
  v105 := Tryd.zeroValue112
  t119 := Tryd.underlying118
  a119 := Tryd.isAgg118
  z119 := Tryd.sizeOf118
  t138 := Tryd.underlying120
  a138 := Tryd.isAgg120
  z138 := Tryd.sizeOf120
  v138 := Tryd.zeroValue120
  t139 := Tryd.underlying121
  a139 := Tryd.isAgg121
  z139 := Tryd.sizeOf121
  v139 := Tryd.zeroValue121
  t146 := Tryd.underlying116
  a146 := Tryd.isAgg116
  z146 := Tryd.sizeOf116
  v146 := Tryd.zeroValue116
  g1 := by kernel_rfl
  g3 := by kernel_rfl
  g4 := by kernel_rfl }
def layCt_ren : Go.Shelf.Ren := ⟨fun | 138 => 51 | 143 => 61 | 195 => 59 | 217 => 67 | 218 => 60 | 219 => 65 | 224 => 69 | 225 => 68 | 266 => 72 | 267 => 70 | 314 => 73 | n => n, fun | 0 => 0 | 3 => 3 | 4 => 4 | 5 => 5 | 9 => 9 | 46 => 25 | 51 => 115 | 146 => 116 | n => n, fun | 1 => 0 | n => n⟩
set_option maxRecDepth 100000 in
theorem layCt : Go.Proofs.Lays.n138 Tryd.prog layCt_ren := {
  mixed := by kernel_rfl
  f138 := Tryd.func51.trans (congrArg some (by kernel_rfl))
  f143 := Tryd.func61.trans (congrArg some (by kernel_rfl))
  f195 := Tryd.func59.trans (congrArg some (by kernel_rfl))
  f217 := Tryd.func67.trans (congrArg some (by kernel_rfl))
  f218 := Tryd.func60.trans (congrArg some (by kernel_rfl))
  f219 := Tryd.func65.trans (congrArg some (by kernel_rfl))
  f224 := Tryd.func69.trans (congrArg some (by kernel_rfl))
  f225 := Tryd.func68.trans (congrArg some (by kernel_rfl))
  f266 := Tryd.func72.trans (congrArg some (by kernel_rfl))
  f267 := Tryd.func70.trans (congrArg some (by kernel_rfl))
  f314 := Tryd.func73.trans (congrArg some (by kernel_rfl))
  t0 := Tryd.underlying0
  a0 := Tryd.isAgg0
  z0 := Tryd.sizeOf0
  v0 := Tryd.zeroValue0
  t3 := Tryd.underlying3
  a3 := Tryd.isAgg3
  z3 := Tryd.sizeOf3
  v3 := Tryd.zeroValue3
  t4 := Tryd.underlying4
  a4 := Tryd.isAgg4
  z4 := Tryd.sizeOf4
  v4 := Tryd.zeroValue4
  t5 := Tryd.underlying5
  a5 := Tryd.isAgg5
  z5 := Tryd.sizeOf5
  v5 := Tryd.zeroValue5
  t9 := Tryd.underlying9
  a9 := Tryd.isAgg9
  z9 := Tryd.sizeOf9
  v9 := Tryd.zeroValue9
  t46 := Tryd.underlying25
  a46 := Tryd.isAgg25
  z46 := Tryd.sizeOf25
  v46 := Tryd.zeroValue25
  t51 := Tryd.underlying115
  a51 := Tryd.isAgg115
  z51 := Tryd.sizeOf115
  v51 := Tryd.zeroValue115
  t146 := Tryd.underlying116
  a146 := Tryd.isAgg116
  z146 := Tryd.sizeOf116
  v146 := Tryd.zeroValue116
  g1 := by kernel_rfl }
def layHp_ren : Go.Shelf.Ren := ⟨fun | 206 => 64 | n => n, fun | 3 => 3 | 4 => 4 | 9 => 9 | n => n, fun n => n⟩
set_option maxRecDepth 100000 in
theorem layHp : Go.Proofs.Lays.n206 Tryd.prog layHp_ren := {
  mixed := by kernel_rfl
  f206 := Tryd.func64.trans (congrArg some (by kernel_rfl))
  t3 := Tryd.underlying3
  a3 := Tryd.isAgg3
  z3 := Tryd.sizeOf3
  v3 := Tryd.zeroValue3
  t4 := Tryd.underlying4
  a4 := Tryd.isAgg4
  z4 := Tryd.sizeOf4
  v4 := Tryd.zeroValue4
  t9 := Tryd.underlying9
  a9 := Tryd.isAgg9
  z9 := Tryd.sizeOf9
  v9 := Tryd.zeroValue9 }
end Go.Proofs.YtgfbmidpiamkhaaDoor

namespace Go.Proofs.YtgfbmidpiamkhaaDoor
open Go.RowKit

abbrev Bs := List UInt8
def bz (l : Bs) : ByteArray := ⟨l.toArray⟩
abbrev sv (l : Bs) : Value := .string (bz l)
theorem bz_list (l : Bs) : (bz l).data.toList = l := rfl
theorem bz_size (l : Bs) : (bz l).size = l.length := rfl
theorem bz_of (s : ByteArray) : s = bz s.data.toList := by
  cases s; simp [bz]
theorem bz_inj {a b : Bs} : bz a = bz b ↔ a = b := ⟨fun h => by simpa [bz_list] using congrArg (fun s => s.data.toList) h, fun h => by rw [h]⟩
theorem bz_toList (l : Bs) : (bz l).toList = l := by rw [ByteArray.toList_eq]; rfl
theorem bz_ext (l : Bs) (i j : Nat) : (bz l).extract i j = bz ((l.drop i).take (j - i)) := by
  apply ByteArray.ext
  simp [bz]
theorem bz_append (a b : Bs) : bz a ++ bz b = bz (a ++ b) := by
  apply ByteArray.ext
  simp [bz]
theorem bz_beq (a b : Bs) : ((bz a).toList == (bz b).toList) = (a == b) := by rw [bz_toList, bz_toList]
theorem bz_nil : (⟨#[]⟩ : ByteArray) = bz [] := rfl
def byteL (l : Bs) (k : Nat) : Nat := (l.getD k 0).toNat
theorem byteL_eq {l : Bs} {k : Nat} (h : k < (bz l).size) : (bz l)[k].toNat = byteL l k := by
  have h' : k < l.length := h
  unfold byteL
  rw [show (l.getD k 0) = l[k] by simp [List.getD, h']]
  rfl
theorem byteL_get {l : Bs} {k : Nat} (h : k < l.length) : byteL l k = l[k].toNat := by
  unfold byteL; simp [List.getD, h]
end Go.Proofs.YtgfbmidpiamkhaaDoor

namespace Go.Proofs.YtgfbmidpiamkhaaDoor
namespace D28

def blankU (c : UInt8) : Bool := c == 32 || c == 9 || c == 10 || c == 13
/-- words, while a text is read: those that are whole, and the one that is read -/
abbrev WS := List Bs × Bs
def wstep (s : WS) (c : UInt8) : WS := if blankU c then (if s.2 = [] then s else (s.1 ++ [s.2], [])) else (s.1, s.2 ++ [c])
def wfin (s : WS) : List Bs := if s.2 = [] then s.1 else s.1 ++ [s.2]
def wordsOf (a : Bs) : List Bs := wfin (a.foldl wstep ([], []))
/-- a line that counts -/
abbrev Ln := Nat × List Bs
def countsB (W : List Bs) : Bool := match W with
  | (99 :: _) :: _ => false
  | [] => false
  | _ => true
def emitL (n : Nat) (W : List Bs) : List Ln := if countsB W then [(n, W)] else []
structure LS where
  out : List Ln
  at_ : Nat
  ws : WS
def LS.start : LS := ⟨[], 1, ([], [])⟩
def lstep (s : LS) (c : UInt8) : LS := if c = 10 then ⟨s.out ++ emitL s.at_ (wfin s.ws), s.at_ + 1, ([], [])⟩ else ⟨s.out, s.at_, wstep s.ws c⟩
def lfin (s : LS) : List Ln := s.out ++ emitL s.at_ (wfin s.ws)
def linesFrom (s : LS) (a : Bs) : List Ln := lfin (a.foldl lstep s)
def linesOf (a : Bs) : List Ln := linesFrom .start a
def endOf (a : Bs) : Nat := a.count 10 + 2

theorem wfin_words {s : WS} {c : UInt8} (h : blankU c = true) : wstep s c = (wfin s, []) := by
  unfold wstep wfin
  rw [if_pos h]
  split
  · obtain ⟨x, y⟩ := s; simp_all
  · rfl

/-- a text cut at its line ends -/
def cut10 : Bs → List Bs
  | [] => [[]]
  | x :: l => if x = 10 then [] :: cut10 l else match cut10 l with
    | p :: ps => (x :: p) :: ps
    | [] => [[x]]
theorem cut10_ne (l : Bs) : cut10 l ≠ [] := by
  cases l with
  | nil => simp [cut10]
  | cons x l =>
    unfold cut10
    split
    · simp
    · split <;> simp
theorem cut10_end (l : Bs) : cut10 (10 :: l) = [] :: cut10 l := by rw [cut10, if_pos rfl]
theorem cut10_other {x : UInt8} {l p : Bs} {ps : List Bs} (hx : x ≠ 10) (h : cut10 l = p :: ps) : cut10 (x :: l) = (x :: p) :: ps := by rw [cut10, if_neg hx, h]
theorem cut10_len (l : Bs) : (cut10 l).length = l.count 10 + 1 := by
  induction l with
  | nil => rfl
  | cons x l ih =>
    by_cases hx : x = 10
    · subst hx; rw [cut10_end, List.count_cons_self]; simp [ih]
    · obtain ⟨p, ps, hp⟩ : ∃ p ps, cut10 l = p :: ps := by
        cases h : cut10 l with
        | nil => exact absurd h (cut10_ne l)
        | cons p ps => exact ⟨p, ps, rfl⟩
      rw [cut10_other hx hp, List.count_cons_of_ne (fun e => hx e)]
      rw [hp] at ih; simpa using ih
/-- lines out of the pieces -/
def emits : Nat → List Bs → List Ln
  | _, [] => []
  | n, p :: ps => emitL n (wordsOf p) ++ emits (n + 1) ps
theorem emits_append (n : Nat) (a b : List Bs) : emits n (a ++ b) = emits n a ++ emits (n + a.length) b := by
  induction a generalizing n with
  | nil => simp [emits]
  | cons p ps ih => simp [emits, ih, Nat.add_assoc, Nat.add_comm 1]
theorem lines_from (l : Bs) : ∀ (s : LS) p ps, cut10 l = p :: ps → linesFrom s l = s.out ++ emitL s.at_ (wfin (p.foldl wstep s.ws)) ++ emits (s.at_ + 1) ps := by
  induction l with
  | nil => intro s p ps h; cases h; simp [linesFrom, lfin, emits]
  | cons x l ih =>
    intro s p ps h
    obtain ⟨q, qs, hq⟩ : ∃ p ps, cut10 l = p :: ps := by
      cases h : cut10 l with
      | nil => exact absurd h (cut10_ne l)
      | cons p ps => exact ⟨p, ps, rfl⟩
    by_cases hx : x = 10
    · subst hx
      rw [cut10_end] at h
      cases h
      rw [hq]
      show linesFrom (lstep s 10) l = _
      rw [ih _ q qs hq]
      simp [lstep, emits, wordsOf]
    · rw [cut10_other hx hq] at h
      simp only [List.cons.injEq] at h
      obtain ⟨h1, h2⟩ := h
      subst h1 h2
      show linesFrom (lstep s x) l = _
      rw [ih _ q qs hq]
      simp [lstep, hx]
theorem linesOf_eq (a : Bs) : linesOf a = emits 1 (cut10 a) := by
  obtain ⟨q, qs, hq⟩ : ∃ p ps, cut10 a = p :: ps := by
    cases h : cut10 a with
    | nil => exact absurd h (cut10_ne a)
    | cons p ps => exact ⟨p, ps, rfl⟩
  rw [linesOf, lines_from a _ q qs hq, hq]
  simp [LS.start, emits, wordsOf]
theorem mem_emitL {n m : Nat} {W V : List Bs} (h : (m, V) ∈ emitL n W) : m = n ∧ V = W ∧ countsB W = true := by
  unfold emitL at h
  split at h
  · simp only [List.mem_singleton, Prod.mk.injEq] at h
    exact ⟨h.1, h.2, by assumption⟩
  · cases h
theorem counts_ne {W : List Bs} (h : countsB W = true) : W ≠ [] := by rintro rfl; cases h
theorem at_of (a : Bs) : ∀ s : LS, (a.foldl lstep s).at_ = s.at_ + a.count 10 := by
  induction a with
  | nil => intro s; rfl
  | cons x a ih =>
    intro s
    show (a.foldl lstep (lstep s x)).at_ = _
    rw [ih]
    by_cases hx : x = 10
    · subst hx; rw [List.count_cons_self]; simp only [lstep, if_pos]; omega
    · rw [List.count_cons_of_ne (fun e => hx e)]; simp [lstep, hx]

/-! ### Numbers -/
def digU (c : UInt8) : Bool := decide (48 ≤ c.toNat) && decide (c.toNat ≤ 57)
def numOf (d : Bs) : Nat := d.foldl (fun n c => 10 * n + (c.toNat - 48)) 0
def parseD (neg : Bool) (d : Bs) : Option Int :=
  if d = [] ∨ 9 < d.length ∨ (d.head? = some 48 ∧ (1 < d.length ∨ neg = true)) then none
  else if d.all digU then some (if neg then -(numOf d : Int) else (numOf d : Int)) else none
def parseL (w : Bs) : Option Int := match w with
  | 45 :: r => parseD true r
  | _ => parseD false w

/-! ### Clauses -/
/-- clauses that are read: those that there are, and whether the last one is open -/
abbrev GS := List (List Int) × Bool
def pushLast (out : List (List Int)) (n : Int) : List (List Int) := match out.reverse with
  | [] => []
  | c :: r => r.reverse ++ [c ++ [n]]
/-- a number more: 0: that goes; 1: wrong; 2: a clause too many -/
def takeG (most vars : Int) (g : GS) (n : Int) : GS × Nat :=
  if g.2 = false ∧ most ≤ g.1.length then (g, 2)
  else
    let out := if g.2 then g.1 else g.1 ++ [[]]
    if n = 0 then ((out, false), 0)
    else if 0 ≤ vars ∧ (vars < n ∨ vars < -n) then ((out, true), 1)
    else ((pushLast out n, true), 0)
/-- the words of a line, one behind the other -/
def wordsG (most vars : Int) : GS → List Bs → GS × Nat
  | g, [] => (g, 0)
  | g, w :: ws => match parseL w with
    | none => (g, 1)
    | some n => match takeG most vars g n with
      | (g', 0) => wordsG most vars g' ws
      | (g', k + 1) => (g', k + 1)
/-- the lines, one behind the other: what is wrong and where -/
def linesG (most vars : Int) : GS → List Ln → GS × Nat × Nat
  | g, [] => (g, 0, 0)
  | g, (n, ws) :: r => match wordsG most vars g ws with
    | (g', 0) => linesG most vars g' r
    | (g', k + 1) => (g', k + 1, n)
end D28
end Go.Proofs.YtgfbmidpiamkhaaDoor

namespace Go.Proofs.YtgfbmidpiamkhaaDoor
open Go.RowKit

theorem any_take_succ {α : Type} (p : α → Bool) (l : List α) (k : Nat) (h : k < l.length) : (l.take (k + 1)).any p = ((l.take k).any p || p l[k]) := by
  rw [List.take_succ_eq_append_getElem h, List.any_append]; simp
theorem all_take_succ {α : Type} (p : α → Bool) (l : List α) (k : Nat) (h : k < l.length) : (l.take (k + 1)).all p = ((l.take k).all p && p l[k]) := by
  rw [List.take_succ_eq_append_getElem h, List.all_append]; simp
theorem any_at {α : Type} {p : α → Bool} {l : List α} {k : Nat} {h : k < l.length} (hp : p l[k] = true) : l.any p = true := List.any_eq_true.2 ⟨_, List.getElem_mem h, hp⟩
theorem all_at {α : Type} {p : α → Bool} {l : List α} {k : Nat} {h : k < l.length} (hp : p l[k] = false) : l.all p = false := List.all_eq_false.2 ⟨_, List.getElem_mem h, by simp [hp]⟩
theorem hid_nil_any {α : Type} (p : α → Bool) (l : List α) : Hid ((l.take 0).any p = false) := by simp [Hid]
theorem hid_any_succ {α : Type} {p : α → Bool} {l : List α} {k : Nat} (h : k < l.length) (hi : Hid ((l.take k).any p = false)) (hp : p l[k] = false) : Hid ((l.take (k + 1)).any p = false) := by
  rw [Hid, any_take_succ _ _ _ h, hi.out, hp]; rfl
theorem hid_any_end {α : Type} {p : α → Bool} {l : List α} (hi : Hid ((l.take l.length).any p = false)) : l.any p = false := by rw [List.take_length] at hi; exact hi
def litTrue (t : List Bool) (n : Int) : Bool := if 0 < n then t.getD (n.toNat - 1) false else if n < 0 then !(t.getD ((-n).toNat - 1) false) else false
def clauseTrue (t : List Bool) (c : List Int) : Bool := c.any (litTrue t)
def holdsI (cls : List (List Int)) (t : List Bool) : Int := match cls.findIdx? (fun c => !clauseTrue t c) with | some i => i | none => -1
def hasB (l : List Int) (x : Int) : Bool := l.contains x
theorem hasB_iff {l : List Int} {x : Int} : hasB l x = true ↔ x ∈ l := by simp [hasB]
theorem contains_false {l : List Int} {x : Int} (h : Hid ((l.take l.length).any (fun y => y == x) = false)) : hasB l x = false := by
  unfold hasB
  rw [List.take_length] at h
  have := h.out
  simp only [List.any_eq_false, beq_iff_eq] at this
  simp only [List.contains_eq_mem, decide_eq_false_iff_not]
  exact fun hm => this x hm rfl
theorem contains_true {l : List Int} {x : Int} {k : Nat} (h : k < l.length) (e : l[k] = x) : hasB l x = true := by
  unfold hasB
  simp only [List.contains_eq_mem, decide_eq_true_eq]; exact e ▸ List.getElem_mem h
/-- The place of a number, or -1. -/
def idxI (l : List Int) (x : Int) : Int := match l.findIdx? (fun y => y == x) with | some i => i | none => -1
theorem idxI_nonneg (l : List Int) (x : Int) : decide (0 ≤ idxI l x) = hasB l x := by
  unfold idxI hasB
  cases h : l.findIdx? (fun y => y == x) with
  | none =>
    have := List.findIdx?_eq_none_iff.1 h
    simp only [beq_eq_false_iff_ne] at this
    have hn : ¬ x ∈ l := fun hm => this x hm rfl
    simp [hn]
  | some i =>
    obtain ⟨hi, hp, _⟩ := List.findIdx?_eq_some_iff_getElem.1 h
    have : x ∈ l := by have := List.getElem_mem hi; simp at hp; rwa [hp] at this
    simp [this]
theorem findIdx_none_of {α : Type} {p : α → Bool} {l : List α} (h : Hid ((l.take l.length).any p = false)) : l.findIdx? p = none := by
  rw [List.take_length] at h
  have := List.any_eq_false.1 h.out
  exact List.findIdx?_eq_none_iff.2 fun x hx => by simpa using this x hx
theorem findIdx_some_of {α : Type} {p : α → Bool} {l : List α} {k : Nat} (h : k < l.length) (hi : Hid ((l.take k).any p = false)) (hp : p l[k] = true) : l.findIdx? p = some k := by
  refine List.findIdx?_eq_some_iff_getElem.2 ⟨h, hp, fun j hj => ?_⟩
  have := List.any_eq_false.1 hi.out (l[j]) (by rw [List.mem_take_iff_getElem]; exact ⟨j, by omega, rfl⟩)
  simpa using this
theorem litTrue_pos {t : List Bool} {k : Nat} (h : k < t.length) {n : Int} (hn : n = (k : Int) + 1) : litTrue t n = t[k] := by
  subst hn
  simp only [litTrue]
  rw [if_pos (by omega), show ((k : Int) + 1).toNat - 1 = k by omega]
  simp [List.getD, h]
theorem litTrue_neg {t : List Bool} {k : Nat} (h : k < t.length) {n : Int} (hn : n = -((k : Int) + 1)) : litTrue t n = !t[k] := by
  subst hn
  simp only [litTrue]
  rw [if_neg (by omega), if_pos (by omega), show (-(-((k : Int) + 1))).toNat - 1 = k by omega]
  simp [List.getD, h]
theorem litTrue_none {t : List Bool} {n : Int} (h1 : ¬ (1 ≤ n ∧ n ≤ t.length)) (h2 : ¬ (-(t.length : Int) ≤ n ∧ n ≤ -1)) : litTrue t n = decide (n < 0) := by
  simp only [litTrue]
  by_cases h : 0 < n
  · rw [if_pos h, List.getD, List.getElem?_eq_none (by omega)]; simp; omega
  · rw [if_neg h]
    by_cases h3 : n < 0
    · rw [if_pos h3, List.getD, List.getElem?_eq_none (by omega)]; simp; omega
    · rw [if_neg h3]; simp; omega
theorem clauseTrue_succ {t : List Bool} {c : List Int} {j : Nat} (h : j < c.length) : clauseTrue t (c.take (j + 1)) = (clauseTrue t (c.take j) || litTrue t c[j]) := any_take_succ _ _ _ h
theorem holdsI_iff {cls : List (List Int)} {t : List Bool} : holdsI cls t = -1 ↔ cls.all (clauseTrue t) = true := by
  unfold holdsI
  cases h : cls.findIdx? (fun c => !clauseTrue t c) with
  | none =>
    have := List.findIdx?_eq_none_iff.1 h
    simp at this
    simpa using this
  | some i =>
    obtain ⟨hi, hp, _⟩ := List.findIdx?_eq_some_iff_getElem.1 h
    simp at hp
    have : cls.all (clauseTrue t) = false := all_at (h := hi) hp
    simp [this]
theorem callFunc_run {P : Program} {f : FuncId} {fn : Func} (hf : P.funcs[f]? = some fn) (hn : (fn.name == "runtime.NumGoroutine") = false) (hb : fn.body.isNone = false) (args : Array Value) (w : World) : (callFunc f args).run P w = .ok (.enter f args) w := by
  cases hc : fn.body with
  | none => simp [hc] at hb
  | some c => simp at hn; simp [callFunc, program, Sem.run, hf, hc, hn]
def idxFn (p : Int → Bool) (l : List Int) : Int := match l.findIdx? p with | some i => i | none => -1
theorem idxFn_nonneg (p : Int → Bool) (l : List Int) : decide (0 ≤ idxFn p l) = l.any p := by
  unfold idxFn
  cases h : l.findIdx? p with
  | none =>
    have := List.findIdx?_eq_none_iff.1 h
    have hn : l.any p = false := by rw [List.any_eq_false]; intro x hx; simp [this x hx]
    simp [hn]
  | some i =>
    obtain ⟨hi, hp, _⟩ := List.findIdx?_eq_some_iff_getElem.1 h
    simp [any_at (h := hi) hp]
theorem hasB_any (w : List Int) (n : Int) : hasB w n = w.any fun y => y == n := by
  rw [Bool.eq_iff_iff, hasB_iff, List.any_eq_true]
  simp
/-- The first one that there is. -/
def firstN {α : Type} (f : Nat → Option α) : Nat → Option α
  | 0 => none
  | n + 1 => match firstN f n with | some x => some x | none => f n
theorem firstN_go {α : Type} {f : Nat → Option α} {k : Nat} (h : firstN f k = none) (hk : f k = none) : firstN f (k + 1) = none := by rw [firstN, h]; exact hk
theorem firstN_mono {α : Type} {f : Nat → Option α} {x : α} {m : Nat} (h : firstN f m = some x) : ∀ n, m ≤ n → firstN f n = some x
  | 0, hn => by obtain rfl : m = 0 := by omega
                exact h
  | n + 1, hn => by
    rcases Nat.lt_or_ge m (n + 1) with hlt | hge
    · rw [firstN, firstN_mono h n (by omega)]
    · obtain rfl : m = n + 1 := by omega
      exact h
theorem firstN_hit {α : Type} {f : Nat → Option α} {x : α} {k n : Nat} (h : firstN f k = none) (hk : f k = some x) (hn : k < n) : firstN f n = some x :=
  firstN_mono (m := k + 1) (by rw [firstN, h]; exact hk) n hn
theorem firstN_none {α : Type} {f : Nat → Option α} : ∀ {n : Nat}, firstN f n = none → ∀ k, k < n → f k = none
  | 0, _, k, hk => absurd hk (by omega)
  | n + 1, h, k, hk => by
    rw [firstN] at h
    cases hf : firstN f n with
    | some x => rw [hf] at h; cases h
    | none =>
      rw [hf] at h
      rcases Nat.lt_or_ge k n with hlt | hge
      · exact firstN_none hf k hlt
      · obtain rfl : k = n := by omega
        exact h
theorem firstN_some {α : Type} {f : Nat → Option α} {x : α} : ∀ {n : Nat}, firstN f n = some x → ∃ k, k < n ∧ f k = some x ∧ firstN f k = none
  | 0, h => by cases h
  | n + 1, h => by
    rw [firstN] at h
    cases hf : firstN f n with
    | some y =>
      rw [hf] at h
      obtain ⟨k, hk, h1, h2⟩ := firstN_some (hf.trans h)
      exact ⟨k, by omega, h1, h2⟩
    | none => rw [hf] at h; exact ⟨n, by omega, h, hf⟩
theorem firstN_all {α : Type} {f : Nat → Option α} : ∀ {n : Nat}, (∀ k, k < n → f k = none) → firstN f n = none
  | 0, _ => rfl
  | n + 1, h => firstN_go (firstN_all fun k hk => h k (by omega)) (h n (by omega))
theorem getD_at {α : Type} {l : List α} {k : Nat} {d : α} (h : k < l.length) : l.getD k d = l[k] := by simp [List.getD, h]
theorem ints_block {W : World} {S : Nat → Prop} {b n : Nat} {l : List Int} {t : TypeId} {f : Nat × Nat} (h : W.heap[b]? = some (.cells (l.map (Value.int .i64)).toArray t f)) (hS : S b) (hl : l.length = n) (hn : n ≤ 1000000) : RInts W S (.slice (some ⟨b, 0, none⟩) n n) l := by
  subst hl
  refine ⟨some ⟨b, 0, none⟩, l.length, rfl, Nat.le_refl _, by unfold maxLen; omega, fun _ => ⟨b, 0, rfl, hS, fun k hk => ⟨.int .i64 l[k], ?_, rfl⟩⟩⟩
  rw [Nat.zero_add, cell_of_row _ _ k _ _ _ h]
  simp [hk]
theorem rows_block {α : Type} {R : Rd α} {W : World} {S : Nat → Prop} {b n : Nat} {vs : List Value} {C : List α} {t : TypeId} {f : Nat × Nat} (h : W.heap[b]? = some (.cells vs.toArray t f)) (hS : S b) (hl : C.length = n) (hn : n ≤ 1000000) (hv : vs.length = C.length)
    (hr : ∀ i (hi : i < C.length) u, vs[i]? = some u → R W S u C[i]) : RSl R W S (.slice (some ⟨b, 0, none⟩) n n) C := by
  subst hl
  refine ⟨some ⟨b, 0, none⟩, C.length, rfl, Nat.le_refl _, by unfold maxLen; omega, fun _ => ⟨b, 0, rfl, hS, fun k hk => ⟨vs[k], ?_, hr k hk _ (List.getElem?_eq_getElem (by omega))⟩⟩⟩
  rw [Nat.zero_add, cell_of_row _ _ k _ _ _ h]
  simp [show k < vs.length by omega]
/-- append of the values of a slice. -/
theorem wpList_appendL {P : Program} {w : World} {ops : Array Oper} {rest : List Oper} {o : Oper} {a : Act} {Q : Exit → Act → World → Prop} (hgd : o.guard = none) (s x : Operand) (t : TypeId)
    (ho : o.op = .call { callee := .builtin .append, args := #[s, x], argTypes := #[t, t] }) {base : Nat} {e : TypeId} {bytes : Nat} (he : Elem1 P t e bytes)
    {v : Value} {n : Nat} {xs : List Value} (hs : a.eval s = v) (hown : w.ownsRow base e 1 v n xs) (ad : Addr) (m c : Nat) (news : List Value) (hx : a.eval x = .slice (some ad) m c) (hl : news.length = m)
    (hc : ∀ j u, news[j]? = some u → w.cell? (ad.add j) = some u) (h1 : ∀ u ∈ news, u.oneCell' = true) (hn : n + m < 1000000000000) (hbase : base ≤ w.heap.size)
    (h : ∀ v' w', w'.ownsRow base e 1 v' (n + m) (xs ++ news) → w.grownBy w' v.ownBlock → (v'.ownBlock = v.ownBlock ∨ v'.ownBlock = some w.heap.size) → wpList P ops Q rest (a.put o.dst v') w') :
    wpList P ops Q (o :: rest) a w := by
  obtain ⟨ht, h64, i, z, hi, hz, hsz, hby, hzs⟩ := he
  refine wpList_append_own_at w hgd s x t ho base e i z 1 bytes ht hi hz hsz hby hzs (by omega) v n xs hs hown ad m c news hx (by omega) hc h1 ?_ ?_ hbase fun v' w' h2 h3 _ h5 => h v' w' h2 h3 h5
  · unfold maxLen; omega
  · have : (n + m) * bytes ≤ 1000000000000 * 64 := Nat.mul_le_mul (by omega) h64
    omega
theorem rat_cells {α : Type} {R : Rd α} {f : α → Value} (hR : ∀ w S u x, R w S u x → u = f x) {w : World} {S : Nat → Prop} {A : Addr} {l : List α} (h : RAt R w S (some A) l) : ∀ j u, (l.map f)[j]? = some u → w.cell? (A.add j) = some u := by
  intro j u hu
  have hj := (List.getElem?_eq_some_iff.1 hu).1
  have hj' : j < l.length := by simpa using hj
  obtain ⟨b, off, e, _, hc⟩ := h (by omega)
  obtain ⟨u', hu', hr⟩ := hc j hj'
  cases e
  rw [add_none, hu', hR _ _ _ _ hr]
  rw [List.getElem?_map, List.getElem?_eq_getElem hj'] at hu
  exact hu
end Go.Proofs.YtgfbmidpiamkhaaDoor

namespace Go.Proofs.YtgfbmidpiamkhaaDoor
namespace C01

def blankB (c : Int) : Bool := c == 32 || c == 9 || c == 10 || c == 13
def digitB (c : Int) : Bool := decide (48 ≤ c) && decide (c ≤ 57)
def firstB (c : Int) : Bool := (decide (65 ≤ c) && decide (c ≤ 90)) || (decide (97 ≤ c) && decide (c ≤ 122)) || c == 95
def nameB (c : Int) : Bool := firstB c || digitB c || c == 46 || c == 45 || c == 58
def textB (c : Int) : Bool := decide (32 ≤ c) || blankB c
def markB (c : Int) : Bool := c == 46 || c == 45 || c == 58
def i1 (b : Bool) (n : Int) : Int := if b then n else 0
def classI (c : Int) : Int := i1 (blankB c) 1 + i1 (digitB c) 10 + i1 (firstB c) 12 + i1 (markB c) 8 + i1 (textB c) 16
def isI (c k : Int) : Bool := classI c / k % 2 == 1
theorem class_all : ∀ n : Fin 256, isI (n.val : Int) 1 = blankB (n.val : Int) ∧ isI (n.val : Int) 2 = digitB (n.val : Int) ∧ isI (n.val : Int) 4 = firstB (n.val : Int) ∧ isI (n.val : Int) 8 = nameB (n.val : Int) ∧ isI (n.val : Int) 16 = textB (n.val : Int) := by decide +kernel
theorem class_eq {c : Int} (h0 : 0 ≤ c) (h1 : c ≤ 255) : isI c 1 = blankB c ∧ isI c 2 = digitB c ∧ isI c 4 = firstB c ∧ isI c 8 = nameB c ∧ isI c 16 = textB c := by
  have := class_all ⟨c.toNat, by omega⟩
  simp only [Int.toNat_of_nonneg h0] at this
  exact this
theorem classI_bounds (c : Int) : 0 ≤ classI c ∧ classI c ≤ 47 := by
  unfold classI i1
  split <;> split <;> split <;> split <;> split <;> omega
/-- how many bytes at the front are so -/
def spanN (p : Int → Bool) (l : List UInt8) : Nat := (l.takeWhile fun x => p (x.toNat : Int)).length
/-- the value of a digit to a base; -1: it is none -/
def digI (c base : Int) : Int := if 48 ≤ c ∧ c ≤ 57 then c - 48 else if base = 16 ∧ 97 ≤ c ∧ c ≤ 102 then c - 97 + 10 else if base = 16 ∧ 65 ≤ c ∧ c ≤ 70 then c - 65 + 10 else -1
theorem dig_eq (c base : Int) : digI c base = if 48 ≤ c ∧ c ≤ 57 then c - 48 else if base = 16 ∧ 97 ≤ c ∧ c ≤ 102 then c - 97 + 10 else if base = 16 ∧ 65 ≤ c ∧ c ≤ 70 then c - 65 + 10 else -1 := rfl
theorem dig_ranges {c : Int} : c < 48 ∨ (48 ≤ c ∧ c ≤ 57) ∨ (57 < c ∧ c < 65) ∨ (65 ≤ c ∧ c ≤ 70) ∨ (70 < c ∧ c < 97) ∨ (97 ≤ c ∧ c ≤ 102) ∨ 102 < c := by omega
def letterOk (n : Int) : Bool := decide (n = 9 ∨ n = 10 ∨ n = 13 ∨ (32 ≤ n ∧ n ≤ 1114111 ∧ ¬ (55296 ≤ n ∧ n ≤ 57343)))
theorem letter_no {n : Int} (h : ¬ (n = 9 ∨ n = 10 ∨ n = 13 ∨ (32 ≤ n ∧ n ≤ 1114111 ∧ ¬ (55296 ≤ n ∧ n ≤ 57343)))) : letterOk n = false := decide_eq_false h
theorem letter_yes {n : Int} (h : n = 9 ∨ n = 10 ∨ n = 13 ∨ (32 ≤ n ∧ n ≤ 1114111 ∧ ¬ (55296 ≤ n ∧ n ≤ 57343))) : letterOk n = true := decide_eq_true h
end C01
end Go.Proofs.YtgfbmidpiamkhaaDoor
