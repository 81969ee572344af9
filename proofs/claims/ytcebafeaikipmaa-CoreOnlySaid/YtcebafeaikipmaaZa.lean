/- Words for memory: a slice that reads as a list, an owned row that is pushed to, what a call leaves as it was; and the last step of a law's row. No function of the program is in sight. / What a call may change: nothing of what was there but what is named. Plain. / Words on rows of numbers: what they hold, which literals and clauses are true. No function of the program is in sight. / .. -/
import Derived.Test.YtcebafeaikipmaaRows
import Derived.WalkKit
import Derived.WalkSpells
import Derived.WalkLawsBesides
import Derived.BigQuiet
import Derived.Deep.QuietTactic
import Derived.Deep.Draws
import Derived.Laws.OwnMore
import Derived.Deep.AppendLies
import Derived.Laws.Rows
import Derived.Maps.AppendAt
import Derived.Lib.Hide
import Derived.ProofKit
import Derived.Deep.Slices
import Derived.Carry
import Derived.Lib.SmallJoins
import Derived.ArgAppend
import Derived.Deep.RegionLaw
namespace Go.Proofs.Ytcebafeaikipmaa
open Go.RowKit Go.ChangeShapes Go.WideShapes Go.ChangeAt Go.Deep

theorem block_of_add (a : Addr) (n : Nat) : (a.add n).block = a.block := by unfold Addr.add; split <;> rfl
theorem add_none (b o n : Nat) : (⟨b, o, none⟩ : Addr).add n = ⟨b, o + n, none⟩ := by unfold Addr.add; split <;> simp_all

/-! ### Sets of blocks, and worlds that agree on one -/
abbrev Lt (n : Nat) : Nat → Prop := fun b => b < n
def Ag (S : Nat → Prop) (w w' : World) : Prop := ∀ b, S b → w'.heap[b]? = w.heap[b]?
theorem Ag.refl (S : Nat → Prop) (w : World) : Ag S w w := fun _ _ => rfl
theorem Ag.trans {S : Nat → Prop} {a b c : World} (h : Ag S a b) (k : Ag S b c) : Ag S a c := fun i hi => (k i hi).trans (h i hi)
theorem Ag.sub {S T : Nat → Prop} {w w' : World} (h : Ag S w w') (hs : ∀ b, T b → S b) : Ag T w w' := fun b hb => h b (hs b hb)
theorem Ag.cell {S : Nat → Prop} {w w' : World} (h : Ag S w w') {p : Addr} (hp : S p.block) : w'.cell? p = w.cell? p := World.cell?_of_block (w := w) (h p.block hp)
theorem ag_of_below {B : Nat} {w w' : World} (h : Below B w w') : Ag (Lt B) w w' := fun b hb => h.block b hb
theorem ag_of_grown {w w' : World} {row : Option Nat} (h : w.grownBy w' row) : Ag (fun b => b < w.heap.size ∧ some b ≠ row) w w' := fun b hb => h.block b hb.1 hb.2
theorem ag_alloc (w : World) (o : Obj) : Ag (Lt w.heap.size) w (w.alloc o) := fun b hb => Below.heap_alloc w o b hb
theorem ag_setCell (w : World) (a : Addr) (u : Value) : Ag (fun b => b ≠ a.block) w (w.setCell a u) := fun b hb => Below.heap_setCell w a u b hb
theorem below_drewN {B : Nat} {a w : World} (h : Below B a w) (n : Nat) : Below B a (w.drewN n) := ⟨h.os, h.tape, h.output, h.size, h.block⟩
theorem bcell {W w1 : World} {B : Nat} (hb : Below B W w1) : (∀ b o, b < B → w1.cell? ⟨b, o, none⟩ = W.cell? ⟨b, o, none⟩) ∧ (∀ b o, b < B → w1.frozen? ⟨b, o, none⟩ = W.frozen? ⟨b, o, none⟩) :=
  ⟨fun b o h => hb.cell (p := ⟨b, o, none⟩) h, fun b o h => hb.frozen (p := ⟨b, o, none⟩) h⟩
theorem box_cell {w w1 : World} {cs : Array Value} {t : TypeId} (h : Below (w.alloc (.cells cs t)).heap.size (w.alloc (.cells cs t)) w1) (j : Nat) : w1.cell? ⟨w.heap.size, j, none⟩ = cs[j]? := by
  rw [h.cell (p := ⟨w.heap.size, j, none⟩) (by simp)]
  exact cell_of_row _ _ j cs t (0, 0) (heap_alloc_new w _)
theorem box2 {w w1 : World} {a b : Value} {t : TypeId} (h : Below (w.alloc (.cells #[a, b] t)).heap.size (w.alloc (.cells #[a, b] t)) w1) :
    w1.cell? ⟨w.heap.size, 0, none⟩ = some a ∧ w1.cell? ⟨w.heap.size, 1, none⟩ = some b := ⟨box_cell h 0, box_cell h 1⟩
theorem box3 {w w1 : World} {a b c : Value} {t : TypeId} (h : Below (w.alloc (.cells #[a, b, c] t)).heap.size (w.alloc (.cells #[a, b, c] t)) w1) :
    w1.cell? ⟨w.heap.size, 0, none⟩ = some a ∧ w1.cell? ⟨w.heap.size, 1, none⟩ = some b ∧ w1.cell? ⟨w.heap.size, 2, none⟩ = some c := ⟨box_cell h 0, box_cell h 1, box_cell h 2⟩
theorem box_a {w w1 : World} {cs ds : Array Value} {t u : TypeId} (h : Below ((w.alloc (.cells cs t)).alloc (.cells ds u)).heap.size ((w.alloc (.cells cs t)).alloc (.cells ds u)) w1) (j : Nat) : w1.cell? ⟨w.heap.size, j, none⟩ = cs[j]? := by
  rw [h.cell (p := ⟨w.heap.size, j, none⟩) (by simp; omega)]
  exact cell_of_row _ _ j cs t (0, 0) ((Below.heap_alloc _ _ _ (by simp)).trans (heap_alloc_new w _))
theorem box_b {w w1 : World} {cs ds : Array Value} {t u : TypeId} (h : Below ((w.alloc (.cells cs t)).alloc (.cells ds u)).heap.size ((w.alloc (.cells cs t)).alloc (.cells ds u)) w1) (j : Nat) : w1.cell? ⟨w.heap.size + 1, j, none⟩ = ds[j]? := by
  rw [h.cell (p := ⟨w.heap.size + 1, j, none⟩) (by simp)]
  have := heap_alloc_new (w.alloc (.cells cs t)) (.cells ds u)
  simp only [World.size_alloc] at this
  exact cell_of_row _ _ j ds u (0, 0) this
theorem box3_1 {w w1 : World} {a b c d : Value} {t u : TypeId} (h : Below ((w.alloc (.cells #[a, b, c] t)).alloc (.cells #[d] u)).heap.size ((w.alloc (.cells #[a, b, c] t)).alloc (.cells #[d] u)) w1) :
    w1.cell? ⟨w.heap.size, 0, none⟩ = some a ∧ w1.cell? ⟨w.heap.size, 1, none⟩ = some b ∧ w1.cell? ⟨w.heap.size, 2, none⟩ = some c ∧ w1.cell? ⟨w.heap.size + 1, 0, none⟩ = some d := ⟨box_a h 0, box_a h 1, box_a h 2, box_b h 0⟩
theorem ret_int {k : IntKind} {a b : Int} (h : a = b) : Ending.returned (.int k a) = .returned (.int k b) := by rw [h]
theorem ret_bool {a b : Bool} (h : a = b) : Ending.returned (.bool a) = .returned (.bool b) := by rw [h]

theorem heap_at_alloc {W : World} {o o' : Obj} {b : Nat} (h : W.heap[b]? = some o') : (W.alloc o).heap[b]? = some o' := (Below.heap_alloc W o b (Array.getElem?_eq_some_iff.1 h).1).trans h
theorem heap_new {W : World} {o : Obj} {b : Nat} (hb : b = W.heap.size) : (W.alloc o).heap[b]? = some o := by subst hb; exact heap_alloc_new W o

/-! ### Readings -/
abbrev Rd (α : Type) := World → (Nat → Prop) → Value → α → Prop
/-- A reading holds on in any world that agrees on its blocks. -/
def Stable {α : Type} (R : Rd α) : Prop := ∀ w w' S S' v x, R w S v x → Ag S w w' → (∀ b, S b → S' b) → R w' S' v x
/-- One-cell elements: where there is an element, the cells lie in a row in a block of S. -/
def RAt {α : Type} (R : Rd α) (w : World) (S : Nat → Prop) (A : Option Addr) (l : List α) : Prop :=
  0 < l.length → ∃ b off, A = some ⟨b, off, none⟩ ∧ S b ∧ ∀ k (h : k < l.length), ∃ u, w.cell? ⟨b, off + k, none⟩ = some u ∧ R w S u l[k]
/-- The slice value v reads as the list l. -/
def RSl {α : Type} (R : Rd α) : Rd (List α) := fun w S v l =>
  ∃ A c, v = .slice A l.length c ∧ l.length ≤ c ∧ c ≤ maxLen ∧ RAt R w S A l
def RInt : Rd Int := fun _ _ v n => v = .int .i64 n
def RIntW : Rd Int := fun _ _ v n => v = .int .i64 n ∧ -9223372036854775808 ≤ n ∧ n ≤ 9223372036854775807
def RBool : Rd Bool := fun _ _ v b => v = .bool b
def RStr : Rd ByteArray := fun _ _ v s => v = .string s
abbrev RInts := RSl RInt
abbrev RBools := RSl RBool
abbrev RStrs := RSl RStr
abbrev RIntss := RSl RInts
abbrev RIntsss := RSl RIntss
theorem RInt.stable : Stable RInt := fun _ _ _ _ _ _ h _ _ => h
theorem RIntW.stable : Stable RIntW := fun _ _ _ _ _ _ h _ _ => h
theorem RBool.stable : Stable RBool := fun _ _ _ _ _ _ h _ _ => h
theorem RStr.stable : Stable RStr := fun _ _ _ _ _ _ h _ _ => h
theorem RAt.agree {α : Type} {R : Rd α} (hs : Stable R) {w w' : World} {S S' : Nat → Prop} {A : Option Addr} {l : List α} (h : RAt R w S A l) (ha : Ag S w w') (hS : ∀ b, S b → S' b) : RAt R w' S' A l := by
  intro hp
  obtain ⟨b, off, e, hb, hc⟩ := h hp
  refine ⟨b, off, e, hS b hb, fun k hk => ?_⟩
  obtain ⟨u, hu, hR⟩ := hc k hk
  exact ⟨u, (ha.cell (p := ⟨b, off + k, none⟩) hb).trans hu, hs _ _ _ _ _ _ hR ha hS⟩
theorem RSl.stable {α : Type} {R : Rd α} (hs : Stable R) : Stable (RSl R) := by
  rintro w w' S S' v l ⟨A, c, hv, h1, h2, h3⟩ ha hS
  exact ⟨A, c, hv, h1, h2, h3.agree hs ha hS⟩
theorem RInts.stable : Stable RInts := RSl.stable RInt.stable
theorem RIntss.stable : Stable RIntss := RSl.stable RInts.stable
theorem RIntsss.stable : Stable RIntsss := RSl.stable RIntss.stable
theorem RBools.stable : Stable RBools := RSl.stable RBool.stable
theorem RStrs.stable : Stable RStrs := RSl.stable RStr.stable
theorem Stable.agree {α : Type} {R : Rd α} (hs : Stable R) {w w' : World} {S : Nat → Prop} {v : Value} {x : α} (h : R w S v x) (ha : Ag S w w') : R w' S v x := hs _ _ _ _ _ _ h ha fun _ h => h
theorem Stable.below {α : Type} {R : Rd α} (hs : Stable R) {w w' : World} {B : Nat} {v : Value} {x : α} (h : R w (Lt B) v x) (hb : Below B w w') : R w' (Lt B) v x := hs.agree h (ag_of_below hb)
theorem Stable.sub {α : Type} {R : Rd α} (hs : Stable R) {w : World} {S S' : Nat → Prop} {v : Value} {x : α} (h : R w S v x) (hS : ∀ b, S b → S' b) : R w S' v x := hs _ _ _ _ _ _ h (Ag.refl _ _) hS
theorem below_alloc (w : World) (o : Obj) : Below w.heap.size w (w.alloc o) := (Below.refl _ _).alloc (Nat.le_refl _) o
theorem Stable.up {α : Type} {R : Rd α} (hs : Stable R) {w w' : World} {v : Value} {x : α} (h : R w (Lt w.heap.size) v x) (hb : Below w.heap.size w w') : R w' (Lt w'.heap.size) v x :=
  hs _ _ _ _ _ _ h (ag_of_below hb) fun b (hlt : b < _) => (Nat.lt_of_lt_of_le hlt hb.size : b < _)
theorem RSl.open_ {α : Type} {R : Rd α} {w : World} {S : Nat → Prop} {v : Value} {l : List α} (h : RSl R w S v l) :
    ∃ A c, v = .slice A l.length c ∧ l.length ≤ 9223372036854775807 ∧ RAt R w S A l := by
  obtain ⟨A, c, hv, h1, h2, h3⟩ := h
  unfold maxLen at h2
  exact ⟨A, c, hv, by omega, h3⟩
theorem RAt.at_ {α : Type} {R : Rd α} {w w' : World} {S : Nat → Prop} {k : Nat} {A : Option Addr} {l : List α} (h : RAt R w S A l)
    (hs : Stable R) (ha : Ag S w w') (hk : k < l.length) : ∃ b off u, A = some ⟨b, off, none⟩ ∧ S b ∧ w'.cell? ⟨b, off + k, none⟩ = some u ∧ R w' S u l[k] := by
  obtain ⟨b, off, e, hb, hc⟩ := h.agree hs ha (fun _ h => h) (by omega)
  obtain ⟨u, hu, hR⟩ := hc k hk
  exact ⟨b, off, u, e, hb, hu, hR⟩
theorem RAt.lt_ {α : Type} {R : Rd α} {w : World} {n : Nat} {k : Nat} {A : Option Addr} {l : List α} (h : RAt R w (Lt n) A l) (hk : k < l.length) :
    ∃ b off u, A = some ⟨b, off, none⟩ ∧ b < n ∧ w.cell? ⟨b, off + k, none⟩ = some u ∧ R w (Lt n) u l[k] := by
  obtain ⟨b, off, e, hb, hc⟩ := h (by omega)
  obtain ⟨u, hu, hR⟩ := hc k hk
  exact ⟨b, off, u, e, hb, hu, hR⟩
theorem RAt.again {α : Type} {R : Rd α} {w : World} {S : Nat → Prop} {b off k : Nat} {l : List α} (h : RAt R w S (some ⟨b, off, none⟩) l) (hk : k < l.length) :
    ∃ u, w.cell? ⟨b, off + k, none⟩ = some u ∧ R w S u l[k] := by
  obtain ⟨b', off', e, hb, hc⟩ := h (by omega)
  simp only [Option.some.injEq, Addr.mk.injEq, and_true] at e
  obtain ⟨rfl, rfl⟩ := e
  exact hc k hk
theorem RSl.nil_ {α : Type} (R : Rd α) (w : World) (S : Nat → Prop) : RSl R w S (.slice none 0 0) [] := ⟨none, 0, rfl, Nat.le_refl _, Nat.zero_le _, fun h => absurd h (by simp)⟩
theorem RSl.map_ {α : Type} {R R' : Rd α} {w : World} {S : Nat → Prop} {v : Value} {l : List α} (h : RSl R w S v l) (hm : ∀ u x, x ∈ l → R w S u x → R' w S u x) : RSl R' w S v l := by
  obtain ⟨A, c, hv, h1, h2, h3⟩ := h
  refine ⟨A, c, hv, h1, h2, fun hp => ?_⟩
  obtain ⟨b, off, e, hb, hc⟩ := h3 hp
  refine ⟨b, off, e, hb, fun k hk => ?_⟩
  obtain ⟨u, hu, hR⟩ := hc k hk
  exact ⟨u, hu, hm _ _ (List.getElem_mem hk) hR⟩
theorem RSl.all_ {α : Type} {R : Rd α} {p : α → Prop} {w : World} {S : Nat → Prop} {v : Value} {l : List α} (h : RSl R w S v l) (hp : ∀ u x, R w S u x → p x) : ∀ x ∈ l, p x := by
  obtain ⟨A, c, hv, h1, h2, h3⟩ := h
  intro x hx
  obtain ⟨k, hk, rfl⟩ := List.getElem_of_mem hx
  obtain ⟨b, off, e, hb, hc⟩ := h3 (by omega)
  obtain ⟨u, hu, hR⟩ := hc k hk
  exact hp _ _ hR

/-- Variables of n cells each, in a row: P says what the one at a block and an offset holds. -/
abbrev RdV (α : Type) := World → (Nat → Prop) → Nat → Nat → α → Prop
def StableV {α : Type} (P : RdV α) : Prop := ∀ w w' S S' b o x, P w S b o x → S b → Ag S w w' → (∀ b, S b → S' b) → P w' S' b o x
def VCells {α : Type} (cells : α → List Value) : RdV α := fun w _ b o x => ∀ j u, (cells x)[j]? = some u → w.cell? ⟨b, o + j, none⟩ = some u
def RAtV {α : Type} (n : Nat) (P : RdV α) (w : World) (S : Nat → Prop) (A : Option Addr) (l : List α) : Prop :=
  0 < l.length → ∃ b off, A = some ⟨b, off, none⟩ ∧ S b ∧ ∀ k (h : k < l.length), P w S b (off + k * n) l[k]
def RArr {α : Type} (n : Nat) (P : RdV α) : Rd (List α) := fun w S v l =>
  ∃ A c, v = .slice A l.length c ∧ l.length ≤ c ∧ c ≤ maxLen ∧ RAtV n P w S A l
theorem VCells.stable {α : Type} (cells : α → List Value) : StableV (VCells cells) := fun _ _ _ _ b o _ h hb ha _ j u hu => (ha.cell (p := ⟨b, o + j, none⟩) hb).trans (h j u hu)
theorem RAtV.agree {α : Type} {n : Nat} {P : RdV α} (hs : StableV P) {w w' : World} {S S' : Nat → Prop} {A : Option Addr} {l : List α} (h : RAtV n P w S A l) (ha : Ag S w w') (hS : ∀ b, S b → S' b) : RAtV n P w' S' A l := by
  intro hp
  obtain ⟨b, off, e, hb, hc⟩ := h hp
  exact ⟨b, off, e, hS b hb, fun k hk => hs _ _ _ _ _ _ _ (hc k hk) hb ha hS⟩
theorem RArr.stable {α : Type} {n : Nat} {P : RdV α} (hs : StableV P) : Stable (RArr n P) := by
  rintro w w' S S' v l ⟨A, c, hv, h1, h2, h3⟩ ha hS
  exact ⟨A, c, hv, h1, h2, h3.agree hs ha hS⟩
theorem RArr.open_ {α : Type} {n : Nat} {P : RdV α} {w : World} {S : Nat → Prop} {v : Value} {l : List α} (h : RArr n P w S v l) :
    ∃ A c, v = .slice A l.length c ∧ l.length ≤ 9223372036854775807 ∧ RAtV n P w S A l := by
  obtain ⟨A, c, hv, h1, h2, h3⟩ := h
  unfold maxLen at h2
  exact ⟨A, c, hv, by omega, h3⟩
theorem RAtV.at_ {α : Type} {n : Nat} {P : RdV α} {w w' : World} {S : Nat → Prop} {k : Nat} {A : Option Addr} {l : List α} (h : RAtV n P w S A l)
    (hs : StableV P) (ha : Ag S w w') (hk : k < l.length) : ∃ b off, A = some ⟨b, off, none⟩ ∧ S b ∧ P w' S b (off + k * n) l[k] := by
  obtain ⟨b, off, e, hb, hc⟩ := h.agree hs ha (fun _ h => h) (by omega)
  exact ⟨b, off, e, hb, hc k hk⟩

/-! ### A row of the call's own -/
/-- What is known of an element type whose variables are one cell. -/
def Elem1 (P : Program) (t e : TypeId) (bytes : Nat) : Prop := P.underlying t = some (.slice e) ∧ bytes ≤ 64 ∧ ∃ i z, P.info? e = some i ∧ i.zero = some z ∧ i.size = 1 ∧ i.bytes = bytes ∧ z.cells.size = 1
theorem elem1_mk {P : Program} {t e : TypeId} {bytes : Nat} {z : Value} (h1 : P.underlying t = some (.slice e)) (h2 : (P.info? e).map (fun i => (i.zero, i.size, i.bytes)) = some (some z, 1, bytes)) (h3 : bytes ≤ 64) (h4 : z.cells.size = 1) : Elem1 P t e bytes := by
  obtain ⟨i0, hi, hz0, hz1, hz2⟩ := info_parts h2
  exact ⟨h1, h3, i0, z, hi, hz0, hz1, hz2, h4⟩
theorem own_shape {w : World} {base : Nat} {e : TypeId} {size : Nat} {v : Value} {n : Nat} {xs : List Value} (h : w.ownsRow base e size v n xs) : ∃ A k, v = .slice A n k := by
  rcases h.2 with ⟨rfl, h0⟩ | ⟨g', cap, cur, rfl, _⟩
  · exact ⟨none, 0, by rw [h0]⟩
  · exact ⟨_, _, rfl⟩
/-- An owned row as a reading. -/
theorem reads_of_own {α : Type} {R : Rd α} {w : World} {S : Nat → Prop} {base : Nat} {e : TypeId} {v : Value} {n : Nat} {xs : List Value} {l : List α} (h : w.ownsRow base e 1 v n xs)
    (hl : l.length = n) (hS : ∀ g, v.ownBlock = some g → S g) (hR : ∀ k (h : k < l.length) u, xs[k]? = some u → R w S u l[k]) : RSl R w S v l := by
  subst hl
  have hx : xs.length = l.length := by simpa using h.1
  rcases h.2 with ⟨rfl, h0⟩ | ⟨g, cap, cur, rfl, hg, hh, hnc, hm, hs, ht⟩
  · have : l = [] := List.eq_nil_of_length_eq_zero h0
    subst this
    exact RSl.nil_ _ _ _
  · refine ⟨some ⟨g, 0, none⟩, cap, rfl, hnc, hm, fun hp => ⟨g, 0, rfl, hS g rfl, fun k hk => ?_⟩⟩
    have hk' : k < xs.length := by omega
    have hc := h.cells (g := g) rfl k xs[k] (List.getElem?_eq_getElem hk')
    rw [add_none] at hc
    exact ⟨xs[k], hc, hR k hk _ (List.getElem?_eq_getElem hk')⟩
theorem ints_of_own {w : World} {S : Nat → Prop} {base : Nat} {e : TypeId} {v : Value} {l : List Int} (h : w.ownsRow base e 1 v l.length (l.map (Value.int .i64))) (hS : ∀ g, v.ownBlock = some g → S g) : RInts w S v l :=
  reads_of_own h rfl hS fun k hk u hu => by rw [List.getElem?_map, List.getElem?_eq_getElem hk] at hu; simpa [RInt, eq_comm] using hu
theorem bools_of_own {w : World} {S : Nat → Prop} {base : Nat} {e : TypeId} {v : Value} {l : List Bool} (h : w.ownsRow base e 1 v l.length (l.map Value.bool)) (hS : ∀ g, v.ownBlock = some g → S g) : RBools w S v l :=
  reads_of_own h rfl hS fun k hk u hu => by rw [List.getElem?_map, List.getElem?_eq_getElem hk] at hu; simpa [RBool, eq_comm] using hu
/-- append of one value, which lies alone in a block that was just made. -/
theorem wpList_push {P : Program} {w : World} {ops : Array Oper} {rest : List Oper} {o : Oper} {a : Act} {Q : Exit → Act → World → Prop} (hgd : o.guard = none) (s x : Operand) (t : TypeId)
    (ho : o.op = .call { callee := .builtin .append, args := #[s, x], argTypes := #[t, t] }) {base : Nat} {e : TypeId} {bytes : Nat} (he : Elem1 P t e bytes)
    {v : Value} {n : Nat} {xs : List Value} (hs : a.eval s = v) (hown : w.ownsRow base e 1 v n xs) (g : Nat) (u : Value) (hx : a.eval x = .slice (some ⟨g, 0, none⟩) 1 1)
    (hc : w.cell? ⟨g, 0, none⟩ = some u) (h1 : u.oneCell' = true) (hn : n < 1000000000000) (hbase : base ≤ w.heap.size)
    (h : ∀ v' w', w'.ownsRow base e 1 v' (n + 1) (xs ++ [u]) → w.grownBy w' v.ownBlock → (v'.ownBlock = v.ownBlock ∨ v'.ownBlock = some w.heap.size) → wpList P ops Q rest (a.put o.dst v') w') :
    wpList P ops Q (o :: rest) a w := by
  obtain ⟨ht, h64, i, z, hi, hz, hsz, hby, hzs⟩ := he
  refine wpList_append_own_at w hgd s x t ho base e i z 1 bytes ht hi hz hsz hby hzs (by omega) v n xs hs hown ⟨g, 0, none⟩ 1 1 [u] hx rfl ?_ ?_ ?_ ?_ hbase fun v' w' h2 h3 _ h5 => h v' w' h2 h3 h5
  · intro j u' hu
    match j with
    | 0 => simp at hu; subst hu; exact hc
    | j + 1 => simp at hu
  · intro u' hu; simp at hu; subst hu; exact h1
  · unfold maxLen; omega
  · have : (n + 1) * bytes ≤ 1000000000000 * 64 := Nat.mul_le_mul (by omega) h64
    omega

theorem run_makeN {P : Program} {t e : TypeId} {bytes : Nat} {z : Value} (h1 : P.underlying t = some (.slice e)) (h2 : (P.info? e).map (fun i => (i.zero, i.size, i.bytes)) = some (some z, 1, bytes)) (hb : bytes ≤ 64) (hz : z.cells = #[z])
    (n : Nat) (hn : n ≤ 1000000000000) (W : World) : (Instr.makeSlice t (.int .i64 (n : Int)) (.int .i64 (n : Int))).run P W = .ok (.slice (some ⟨W.heap.size, 0, none⟩) n n) (W.alloc (.cells (madeCells #[z] n) e)) := by
  obtain ⟨i, hi, hz0, hz1, hz2⟩ := info_parts h2
  have hbn : (i.bytes : Int) * (n : Int) ≤ 281474976710656 := by
    have h : i.bytes * n ≤ 64 * 1000000000000 := Nat.mul_le_mul (by omega) hn
    have h' : ((i.bytes * n : Nat) : Int) ≤ 281474976710656 := by omega
    rwa [Int.natCast_mul] at h'
  have hr := run_make (P := P) W t e i z h1 hi hz0 .i64 .i64 n n (by omega) (by omega) hbn (by omega)
  simp only [Int.toNat_natCast, hz1, Nat.mul_one, hz] at hr
  exact hr
theorem own_made (W : World) (e : TypeId) (z : Value) (n : Nat) (hn : n ≤ 1000000000000) : (W.alloc (.cells (madeCells #[z] n) e)).ownsRow W.heap.size e 1 (.slice (some ⟨W.heap.size, 0, none⟩) n n) n (List.replicate n z) := by
  have := World.ownsRow_lit (base := W.heap.size) (e := e) (size := 1) W (madeCells #[z] n) n (Nat.le_refl _) (by unfold maxLen; omega) (by simp [size_madeCells])
  rwa [toList_madeCells_one] at this

theorem ba_beq (a b : ByteArray) : (a.toList == b.toList) = decide (a = b) := by
  rw [ByteArray.toList_eq, ByteArray.toList_eq, Bool.eq_iff_iff]
  simp only [beq_iff_eq, decide_eq_true_eq]
  exact ⟨fun h => ByteArray.ext (Array.toList_inj.mp h), fun h => by rw [h]⟩

/-! ### The last step of a row -/
section
variable {H : Type} {enc : TypeId × Value → H} {P : Program}
theorem post_of_below {f : Func} {s : ChangeSpec} {apart fresh handsOn again : Bool} {W W' : World} {args : Array Value} {v : Value} {ds gs : List (DataW H)} {before pa pv : List MemPlace}
    (hW : DataW.Whole enc P f.params.toList s.vars apart W args.toList ds gs before)
    (hres : ∀ (b : Nat) (sp : Nat → Bool) (hd : Bool), DataW.TrodAll enc P W' b sp hd f.resultTypes.toList (v.resultList f.resultTypes.size) (s.fn H (ds ++ gs)).results [])
    (hargs : ∀ sp : Nat → Bool, (∀ p ∈ before, sp p.block = true) → DataW.TrodAll enc P W' 0 sp true f.params.toList args.toList (s.fn H (ds ++ gs)).args pa)
    (hvars : ∀ sp : Nat → Bool, (∀ p ∈ before, sp p.block = true) → DataW.TrodVars enc P W' sp s.vars (s.fn H (ds ++ gs)).vars pv)
    (hps : before = pa ++ pv) (hb : Below W.heap.size W W')
    (hok : ∀ (j : Nat) (t : TypeId) (r : Value), f.resultTypes[j]? = some t → (v.resultList f.resultTypes.size)[j]? = some r → Value.okWide P W' .any 0 t r) :
    s.post enc P f apart fresh handsOn again W args v W' := by
  have hlt : ∀ p ∈ before, p.block < W.heap.size := fun p hp => hW.lt p hp
  have hold : ∀ p ∈ before, (fun b => decide (b < W.heap.size)) p.block = true := fun p hp => by simpa using hlt p hp
  refine ⟨ds, gs, before, [], pa, pv, hW, hres _ _ _, hargs _ hold, hvars _ hold, World.keptBut_mono (fun p hp => ⟨hp, ?_⟩) (hb.frame (· ∈ before)), fun _ => ?_⟩
  · rw [hps, List.mem_append] at hp
    exact Or.inr hp
  · obtain ⟨_, _, _, _, _, hz, hn⟩ := hW
    refine ⟨hok, _, _, ([] ++ pa) ++ pv, ⟨[] ++ pa, pv, trodAll_append (hargs _ (fun _ _ => rfl)) (hres _ _ _), hvars _ (fun _ _ => rfl), rfl, ?_, ?_⟩, ?_⟩
    · intro b off hp
      have hin : MemPlace.cell b off ∈ before := by rw [hps]; simpa using hp
      rw [hb.frozen (hlt _ hin)]
      exact hz b off hin
    · intro ha
      have := hn ha
      rw [hps] at this
      simpa using this
    · intro p hp _
      rw [hps]
      simpa using hp
end

/-! ### Arguments that are read -/
/-- What a law is handed: a value of type t that reads as data, all of it below the heap's end. -/
def Arg (P : Program) (w : World) (t : TypeId) (v : Value) : Prop :=
  ∃ (H : Type) (enc : TypeId × Value → H) (base : Nat) (d : DataW H) (p : List MemPlace), Value.okWide P w .any base t v ∧ DataW.Trod enc P w 0 (fun _ => true) true t v d p ∧ ∀ x ∈ p, x.block < w.heap.size
/-- Every reading of a one-cell variable of type t gives R. -/
def Reads1 {α : Type} (P : Program) (t : TypeId) (R : Rd α) : Prop :=
  ∀ {H : Type} {enc : TypeId × Value → H} {w : World} {fuel : Nat} {cs : List Value} {x : DataW H × List MemPlace}, DataW.trod enc P w 0 (fun _ => true) true fuel t cs = some x →
    (∀ p ∈ x.2, p.block < w.heap.size) → ∃ v d, cs = [v] ∧ R w (Lt w.heap.size) v d
theorem reads1_int {P : Program} {t : TypeId} (ht : P.underlying t = some (.int .i64)) : Reads1 P t RIntW := fun h _ => by
  obtain ⟨n, h1, _, h3⟩ := DataW.trod_int ht h
  refine ⟨_, n, h1, rfl, ?_⟩
  simp [Lit.wf, IntKind.min, IntKind.max, IntKind.bits, IntKind.signed] at h3
  omega
theorem reads1_bool {P : Program} {t : TypeId} (ht : P.underlying t = some .bool) : Reads1 P t RBool := fun h _ => by
  obtain ⟨n, h1, _⟩ := DataW.trod_bool ht h
  exact ⟨_, n, h1, rfl⟩
def RStrW : Rd ByteArray := fun _ _ v s => v = .string s ∧ s.size ≤ maxLen
theorem RStrW.stable : Stable RStrW := fun _ _ _ _ _ _ h _ _ => h
theorem reads1_string {P : Program} {t : TypeId} (ht : P.underlying t = some .string) : Reads1 P t RStrW := fun h _ => by
  obtain ⟨s, h1, _, h3⟩ := DataW.trod_string ht h
  exact ⟨_, s, h1, rfl, h3⟩
theorem choose_list {α : Type} {n : Nat} {p : Nat → α → Prop} (h : ∀ i, i < n → ∃ x, p i x) : ∃ l : List α, l.length = n ∧ ∀ i (hi : i < l.length), p i l[i] := by
  induction n with
  | zero => exact ⟨[], rfl, fun i hi => absurd hi (by simp)⟩
  | succ n ih =>
    obtain ⟨l, hl, hp⟩ := ih fun i hi => h i (by omega)
    obtain ⟨x, hx⟩ := h n (by omega)
    refine ⟨l ++ [x], by simp [hl], fun i hi => ?_⟩
    rcases Nat.lt_or_ge i l.length with hlt | hge
    · rw [List.getElem_append_left hlt]; exact hp i hlt
    · have : i = l.length := by simp at hi; omega
      subst this
      simp [hl, hx]
theorem spot_none {w : World} {a : Addr} {v : Value} (h : w.cell? a = some v) : a = ⟨a.block, a.off, none⟩ := by
  obtain ⟨b, o, s⟩ := a
  cases s with
  | none => rfl
  | some s =>
    simp only [World.cell?] at h
    split at h <;> simp at h
theorem reads1_slice {α : Type} {P : Program} {t e : TypeId} {R : Rd α} (ht : P.underlying t = some (.slice e)) (hc1 : P.cellsOf e = 1) (hR : Reads1 P e R) : Reads1 P t (RSl R) := fun {H enc w fuel cs x} h hp => by
  rcases open_slice ht h with ⟨rfl, rfl⟩ | ⟨a, len, cap, m, n, D, Pl, rfl, _, hlc, hcm, hm, rfl, hat⟩
  · exact ⟨_, [], rfl, RSl.nil_ _ _ _⟩
  · simp only [if_true] at hm
    subst hm
    rw [hc1] at hat hp
    have hrow : ∀ i, i < m → ∃ v, w.cell? (a.add i) = some v ∧ ∃ d, R w (Lt w.heap.size) v d := by
      intro i hi
      obtain ⟨cs', hcs, htr⟩ := hat i hi
      obtain ⟨v, d, rfl, hRd⟩ := hR htr (fun p hp' => hp p (by simp only [List.mem_append, List.mem_flatMap, List.mem_range]; exact .inr ⟨i, hi, hp'⟩))
      obtain ⟨_, _, hcell⟩ := World.cells?_some hcs
      have := hcell 0 (by omega)
      refine ⟨v, ?_, d, hRd⟩
      simpa [Addr.add] using this
    obtain ⟨l, hl, hat'⟩ := choose_list (n := len) (p := fun i d => ∃ v, w.cell? (a.add i) = some v ∧ R w (Lt w.heap.size) v d) (fun i hi => by
      obtain ⟨v, hv, d, hd⟩ := hrow i (by omega)
      exact ⟨d, v, hv, hd⟩)
    refine ⟨_, l, rfl, some a, m, by rw [hl], by omega, hcm, fun hpos => ?_⟩
    obtain ⟨v, hv, _⟩ := hat' 0 hpos
    have hsp := spot_none (w := w) (a := a) (v := v) (by simpa [Addr.add] using hv)
    refine ⟨a.block, a.off, by rw [← hsp], ?_, fun k hk => ?_⟩
    · have := World.block_lt_of_cell? w _ hv
      simpa [Lt, block_of_add] using this
    · obtain ⟨u, hu, hRu⟩ := hat' k hk
      rw [hsp, add_none] at hu
      exact ⟨u, hu, hRu⟩
/-- An argument of one cell, read. -/
theorem Arg.read1 {α : Type} {P : Program} {w : World} {t : TypeId} {v : Value} {R : Rd α} (h : Arg P w t v) (hR : Reads1 P t R) (hv : ∀ cs, v ≠ .agg cs) : ∃ d, R w (Lt w.heap.size) v d := by
  obtain ⟨H, enc, base, d, p, _, ⟨fuel, hf⟩, hlt⟩ := h
  have hc : v.cells.toList = [v] := by cases v <;> first | rfl | exact absurd rfl (hv _)
  rw [hc] at hf
  obtain ⟨v', d', he, hRd⟩ := hR hf hlt
  simp at he
  exact ⟨d', he ▸ hRd⟩
end Go.Proofs.Ytcebafeaikipmaa

namespace Go.Proofs.Ytcebafeaikipmaa.S15
open Go.RowKit

/-- From w to w' nothing that was there has changed but what D names. -/
structure Ch (D : Nat → Prop) (w w' : World) : Prop where
  os : w'.os = w.os
  tape : w'.tape = w.tape
  output : w'.output = w.output
  size : w.heap.size ≤ w'.heap.size
  block : ∀ b, b < w.heap.size → ¬ D b → w'.heap[b]? = w.heap[b]?
theorem Ch.refl (D : Nat → Prop) (w : World) : Ch D w w := ⟨rfl, rfl, rfl, Nat.le_refl _, fun _ _ _ => rfl⟩
theorem Ch.trans {D : Nat → Prop} {a b c : World} (h : Ch D a b) (k : Ch D b c) : Ch D a c :=
  ⟨k.os.trans h.os, k.tape.trans h.tape, k.output.trans h.output, Nat.le_trans h.size k.size, fun i hi hd => (k.block i (Nat.lt_of_lt_of_le hi h.size) hd).trans (h.block i hi hd)⟩
theorem Ch.imp {D D' : Nat → Prop} {a b : World} (h : Ch D a b) (hd : ∀ i, i < a.heap.size → D i → D' i) : Ch D' a b :=
  ⟨h.os, h.tape, h.output, h.size, fun i hi hn => h.block i hi fun x => hn (hd i hi x)⟩
theorem ch_below {B : Nat} {a b : World} (h : Below B a b) : Ch (fun i => B ≤ i) a b := ⟨h.os, h.tape, h.output, h.size, fun i _ hn => h.block i (by omega)⟩
theorem ch_new {a b : World} (h : Below a.heap.size a b) (D : Nat → Prop) : Ch D a b := (ch_below h).imp fun i hi hd => by omega
theorem ch_grown {a b : World} {row : Option Nat} (h : a.grownBy b row) : Ch (fun i => some i = row) a b := ⟨h.os, h.tape, h.output, h.size, fun i hi hn => h.block i hi hn⟩
theorem ch_set (a : World) (g o : Nat) (v : Value) : Ch (fun i => i = g) a (a.setCell ⟨g, o, none⟩ v) := ⟨rfl, rfl, rfl, by simp, fun i _ hn => Below.heap_setCell _ _ _ _ hn⟩
theorem Ch.below {D : Nat → Prop} {B : Nat} {a b : World} (h : Ch D a b) (hd : ∀ i, D i → B ≤ i) (hB : B ≤ a.heap.size) : Below B a b := ⟨h.os, h.tape, h.output, h.size, fun i hi => h.block i (by omega) fun x => by have := hd i x; omega⟩
theorem Ch.ag {D S : Nat → Prop} {a b : World} (h : Ch D a b) (hs : ∀ i, S i → i < a.heap.size ∧ ¬ D i) : Ag S a b := fun i hi => h.block i (hs i hi).1 (hs i hi).2
theorem Ch.own {D : Nat → Prop} {a b : World} (h : Ch D a b) {base : Nat} {t : TypeId} {sz : Nat} {v : Value} {n : Nat} {xs : List Value} (ho : a.ownsRow base t sz v n xs) (hd : ∀ i, v.ownBlock = some i → ¬ D i) : b.ownsRow base t sz v n xs := by
  have hlt := ho.lt
  obtain ⟨h1, ⟨rfl, h2⟩ | ⟨g, cap, cur, rfl, hbg, hh, hr⟩⟩ := ho
  · exact ⟨h1, .inl ⟨rfl, h2⟩⟩
  · exact ⟨h1, .inr ⟨g, cap, cur, rfl, hbg, (h.block g (hlt g rfl).2 (hd g rfl)).trans hh, hr⟩⟩

def Apart (v v' : Value) : Prop := ∀ b, v.ownBlock = some b → v'.ownBlock = some b → False
theorem Apart.symm {v v' : Value} (h : Apart v v') : Apart v' v := fun b h1 h2 => h b h2 h1
/-- What is made anew, or is as it was. -/
def NewOr (w : World) (v v' : Value) : Prop := ∀ b, v'.ownBlock = some b → v.ownBlock = some b ∨ w.heap.size ≤ b
theorem NewOr.refl (w : World) (v : Value) : NewOr w v v := fun _ h => .inl h
theorem newOr_app {w w' : World} {v v' : Value} (h : v'.ownBlock = v.ownBlock ∨ v'.ownBlock = some w'.heap.size) (hs : w.heap.size ≤ w'.heap.size) : NewOr w v v' := fun b hb => by
  rcases h with h | h
  · rw [h] at hb; exact .inl hb
  · rw [h] at hb; cases hb; exact .inr hs
theorem Apart.new {w : World} {v v' u : Value} (h : Apart v u) (hv : NewOr w v v') (hu : ∀ b, u.ownBlock = some b → b < w.heap.size) : Apart v' u := fun b h1 h2 => by
  rcases hv b h1 with e | e
  · exact h b e h2
  · have := hu b h2; omega
theorem Ch.drewN {D : Nat → Prop} {a b : World} (h : Ch D a b) (n : Nat) : Ch D a (b.drewN n) := ⟨h.os, h.tape, h.output, h.size, h.block⟩
theorem own_new {w w' : World} (h : Below w.heap.size w w') {base : Nat} {t : TypeId} {sz : Nat} {v : Value} {n : Nat} {xs : List Value} (ho : w.ownsRow base t sz v n xs) : w'.ownsRow base t sz v n xs := (ch_new h (fun _ => False)).own ho fun _ _ x => x
end Go.Proofs.Ytcebafeaikipmaa.S15

namespace Go.Proofs.Ytcebafeaikipmaa.S15
open Go.RowKit

theorem any_take_succ {α : Type} (p : α → Bool) (l : List α) (k : Nat) (h : k < l.length) : (l.take (k + 1)).any p = ((l.take k).any p || p l[k]) := by
  rw [List.take_succ_eq_append_getElem h, List.any_append]; simp
theorem all_take_succ {α : Type} (p : α → Bool) (l : List α) (k : Nat) (h : k < l.length) : (l.take (k + 1)).all p = ((l.take k).all p && p l[k]) := by
  rw [List.take_succ_eq_append_getElem h, List.all_append]; simp
theorem any_at {α : Type} {p : α → Bool} {l : List α} {k : Nat} {h : k < l.length} (hp : p l[k] = true) : l.any p = true := List.any_eq_true.2 ⟨_, List.getElem_mem h, hp⟩
theorem all_at {α : Type} {p : α → Bool} {l : List α} {k : Nat} {h : k < l.length} (hp : p l[k] = false) : l.all p = false := List.all_eq_false.2 ⟨_, List.getElem_mem h, by simp [hp]⟩
theorem hid_nil_any {α : Type} (p : α → Bool) (l : List α) : Hid ((l.take 0).any p = false) := by simp [Hid]
theorem hid_any_succ {α : Type} {p : α → Bool} {l : List α} {k : Nat} (h : k < l.length) (hi : Hid ((l.take k).any p = false)) (hp : p l[k] = false) : Hid ((l.take (k + 1)).any p = false) := by
  rw [Hid, any_take_succ _ _ _ h, hi.out, hp]; rfl
theorem hid_any_end {α : Type} {p : α → Bool} {l : List α} (hi : Hid ((l.take l.length).any p = false)) : l.any p = false := by rw [List.take_length] at hi; exact hi
def litTrue (t : List Bool) (n : Int) : Bool := if 0 < n then t.getD (n.toNat - 1) false else if n < 0 then !(t.getD ((-n).toNat - 1) false) else false
def clauseTrue (t : List Bool) (c : List Int) : Bool := c.any (litTrue t)
def holdsI (cls : List (List Int)) (t : List Bool) : Int := match cls.findIdx? (fun c => !clauseTrue t c) with | some i => i | none => -1
def hasB (l : List Int) (x : Int) : Bool := l.contains x
theorem hasB_iff {l : List Int} {x : Int} : hasB l x = true ↔ x ∈ l := by simp [hasB]
theorem contains_false {l : List Int} {x : Int} (h : Hid ((l.take l.length).any (fun y => y == x) = false)) : hasB l x = false := by
  unfold hasB
  rw [List.take_length] at h
  have := h.out
  simp only [List.any_eq_false, beq_iff_eq] at this
  simp only [List.contains_eq_mem, decide_eq_false_iff_not]
  exact fun hm => this x hm rfl
theorem contains_true {l : List Int} {x : Int} {k : Nat} (h : k < l.length) (e : l[k] = x) : hasB l x = true := by
  unfold hasB
  simp only [List.contains_eq_mem, decide_eq_true_eq]; exact e ▸ List.getElem_mem h
/-- The place of a number, or -1. -/
def idxI (l : List Int) (x : Int) : Int := match l.findIdx? (fun y => y == x) with | some i => i | none => -1
theorem idxI_nonneg (l : List Int) (x : Int) : decide (0 ≤ idxI l x) = hasB l x := by
  unfold idxI hasB
  cases h : l.findIdx? (fun y => y == x) with
  | none =>
    have := List.findIdx?_eq_none_iff.1 h
    simp only [beq_eq_false_iff_ne] at this
    have hn : ¬ x ∈ l := fun hm => this x hm rfl
    simp [hn]
  | some i =>
    obtain ⟨hi, hp, _⟩ := List.findIdx?_eq_some_iff_getElem.1 h
    have : x ∈ l := by have := List.getElem_mem hi; simp at hp; rwa [hp] at this
    simp [this]
theorem findIdx_none_of {α : Type} {p : α → Bool} {l : List α} (h : Hid ((l.take l.length).any p = false)) : l.findIdx? p = none := by
  rw [List.take_length] at h
  have := List.any_eq_false.1 h.out
  exact List.findIdx?_eq_none_iff.2 fun x hx => by simpa using this x hx
theorem findIdx_some_of {α : Type} {p : α → Bool} {l : List α} {k : Nat} (h : k < l.length) (hi : Hid ((l.take k).any p = false)) (hp : p l[k] = true) : l.findIdx? p = some k := by
  refine List.findIdx?_eq_some_iff_getElem.2 ⟨h, hp, fun j hj => ?_⟩
  have := List.any_eq_false.1 hi.out (l[j]) (by rw [List.mem_take_iff_getElem]; exact ⟨j, by omega, rfl⟩)
  simpa using this
theorem litTrue_pos {t : List Bool} {k : Nat} (h : k < t.length) {n : Int} (hn : n = (k : Int) + 1) : litTrue t n = t[k] := by
  subst hn
  simp only [litTrue]
  rw [if_pos (by omega), show ((k : Int) + 1).toNat - 1 = k by omega]
  simp [List.getD, h]
theorem litTrue_neg {t : List Bool} {k : Nat} (h : k < t.length) {n : Int} (hn : n = -((k : Int) + 1)) : litTrue t n = !t[k] := by
  subst hn
  simp only [litTrue]
  rw [if_neg (by omega), if_pos (by omega), show (-(-((k : Int) + 1))).toNat - 1 = k by omega]
  simp [List.getD, h]
theorem litTrue_none {t : List Bool} {n : Int} (h1 : ¬ (1 ≤ n ∧ n ≤ t.length)) (h2 : ¬ (-(t.length : Int) ≤ n ∧ n ≤ -1)) : litTrue t n = decide (n < 0) := by
  simp only [litTrue]
  by_cases h : 0 < n
  · rw [if_pos h, List.getD, List.getElem?_eq_none (by omega)]; simp; omega
  · rw [if_neg h]
    by_cases h3 : n < 0
    · rw [if_pos h3, List.getD, List.getElem?_eq_none (by omega)]; simp; omega
    · rw [if_neg h3]; simp; omega
theorem clauseTrue_succ {t : List Bool} {c : List Int} {j : Nat} (h : j < c.length) : clauseTrue t (c.take (j + 1)) = (clauseTrue t (c.take j) || litTrue t c[j]) := any_take_succ _ _ _ h
theorem holdsI_iff {cls : List (List Int)} {t : List Bool} : holdsI cls t = -1 ↔ cls.all (clauseTrue t) = true := by
  unfold holdsI
  cases h : cls.findIdx? (fun c => !clauseTrue t c) with
  | none =>
    have := List.findIdx?_eq_none_iff.1 h
    simp at this
    simpa using this
  | some i =>
    obtain ⟨hi, hp, _⟩ := List.findIdx?_eq_some_iff_getElem.1 h
    simp at hp
    have : cls.all (clauseTrue t) = false := all_at (h := hi) hp
    simp [this]
theorem callFunc_run {P : Program} {f : FuncId} {fn : Func} (hf : P.funcs[f]? = some fn) (hn : (fn.name == "runtime.NumGoroutine") = false) (hb : fn.body.isNone = false) (args : Array Value) (w : World) : (callFunc f args).run P w = .ok (.enter f args) w := by
  cases hc : fn.body with
  | none => simp [hc] at hb
  | some c => simp at hn; simp [callFunc, program, Sem.run, hf, hc, hn]
def idxFn (p : Int → Bool) (l : List Int) : Int := match l.findIdx? p with | some i => i | none => -1
theorem idxFn_nonneg (p : Int → Bool) (l : List Int) : decide (0 ≤ idxFn p l) = l.any p := by
  unfold idxFn
  cases h : l.findIdx? p with
  | none =>
    have := List.findIdx?_eq_none_iff.1 h
    have hn : l.any p = false := by rw [List.any_eq_false]; intro x hx; simp [this x hx]
    simp [hn]
  | some i =>
    obtain ⟨hi, hp, _⟩ := List.findIdx?_eq_some_iff_getElem.1 h
    simp [any_at (h := hi) hp]
theorem hasB_any (w : List Int) (n : Int) : hasB w n = w.any fun y => y == n := by
  rw [Bool.eq_iff_iff, hasB_iff, List.any_eq_true]
  simp
/-- The first one that there is. -/
def firstN {α : Type} (f : Nat → Option α) : Nat → Option α
  | 0 => none
  | n + 1 => match firstN f n with | some x => some x | none => f n
theorem firstN_go {α : Type} {f : Nat → Option α} {k : Nat} (h : firstN f k = none) (hk : f k = none) : firstN f (k + 1) = none := by rw [firstN, h]; exact hk
theorem firstN_mono {α : Type} {f : Nat → Option α} {x : α} {m : Nat} (h : firstN f m = some x) : ∀ n, m ≤ n → firstN f n = some x
  | 0, hn => by obtain rfl : m = 0 := by omega
                exact h
  | n + 1, hn => by
    rcases Nat.lt_or_ge m (n + 1) with hlt | hge
    · rw [firstN, firstN_mono h n (by omega)]
    · obtain rfl : m = n + 1 := by omega
      exact h
theorem firstN_hit {α : Type} {f : Nat → Option α} {x : α} {k n : Nat} (h : firstN f k = none) (hk : f k = some x) (hn : k < n) : firstN f n = some x :=
  firstN_mono (m := k + 1) (by rw [firstN, h]; exact hk) n hn
theorem firstN_none {α : Type} {f : Nat → Option α} : ∀ {n : Nat}, firstN f n = none → ∀ k, k < n → f k = none
  | 0, _, k, hk => absurd hk (by omega)
  | n + 1, h, k, hk => by
    rw [firstN] at h
    cases hf : firstN f n with
    | some x => rw [hf] at h; cases h
    | none =>
      rw [hf] at h
      rcases Nat.lt_or_ge k n with hlt | hge
      · exact firstN_none hf k hlt
      · obtain rfl : k = n := by omega
        exact h
theorem firstN_some {α : Type} {f : Nat → Option α} {x : α} : ∀ {n : Nat}, firstN f n = some x → ∃ k, k < n ∧ f k = some x ∧ firstN f k = none
  | 0, h => by cases h
  | n + 1, h => by
    rw [firstN] at h
    cases hf : firstN f n with
    | some y =>
      rw [hf] at h
      obtain ⟨k, hk, h1, h2⟩ := firstN_some (hf.trans h)
      exact ⟨k, by omega, h1, h2⟩
    | none => rw [hf] at h; exact ⟨n, by omega, h, hf⟩
theorem firstN_all {α : Type} {f : Nat → Option α} : ∀ {n : Nat}, (∀ k, k < n → f k = none) → firstN f n = none
  | 0, _ => rfl
  | n + 1, h => firstN_go (firstN_all fun k hk => h k (by omega)) (h n (by omega))
theorem getD_at {α : Type} {l : List α} {k : Nat} {d : α} (h : k < l.length) : l.getD k d = l[k] := by simp [List.getD, h]
theorem ints_block {W : World} {S : Nat → Prop} {b n : Nat} {l : List Int} {t : TypeId} {f : Nat × Nat} (h : W.heap[b]? = some (.cells (l.map (Value.int .i64)).toArray t f)) (hS : S b) (hl : l.length = n) (hn : n ≤ 1000000) : RInts W S (.slice (some ⟨b, 0, none⟩) n n) l := by
  subst hl
  refine ⟨some ⟨b, 0, none⟩, l.length, rfl, Nat.le_refl _, by unfold maxLen; omega, fun _ => ⟨b, 0, rfl, hS, fun k hk => ⟨.int .i64 l[k], ?_, rfl⟩⟩⟩
  rw [Nat.zero_add, cell_of_row _ _ k _ _ _ h]
  simp [hk]
theorem rows_block {α : Type} {R : Rd α} {W : World} {S : Nat → Prop} {b n : Nat} {vs : List Value} {C : List α} {t : TypeId} {f : Nat × Nat} (h : W.heap[b]? = some (.cells vs.toArray t f)) (hS : S b) (hl : C.length = n) (hn : n ≤ 1000000) (hv : vs.length = C.length)
    (hr : ∀ i (hi : i < C.length) u, vs[i]? = some u → R W S u C[i]) : RSl R W S (.slice (some ⟨b, 0, none⟩) n n) C := by
  subst hl
  refine ⟨some ⟨b, 0, none⟩, C.length, rfl, Nat.le_refl _, by unfold maxLen; omega, fun _ => ⟨b, 0, rfl, hS, fun k hk => ⟨vs[k], ?_, hr k hk _ (List.getElem?_eq_getElem (by omega))⟩⟩⟩
  rw [Nat.zero_add, cell_of_row _ _ k _ _ _ h]
  simp [show k < vs.length by omega]
/-- append of the values of a slice. -/
theorem wpList_appendL {P : Program} {w : World} {ops : Array Oper} {rest : List Oper} {o : Oper} {a : Act} {Q : Exit → Act → World → Prop} (hgd : o.guard = none) (s x : Operand) (t : TypeId)
    (ho : o.op = .call { callee := .builtin .append, args := #[s, x], argTypes := #[t, t] }) {base : Nat} {e : TypeId} {bytes : Nat} (he : Elem1 P t e bytes)
    {v : Value} {n : Nat} {xs : List Value} (hs : a.eval s = v) (hown : w.ownsRow base e 1 v n xs) (ad : Addr) (m c : Nat) (news : List Value) (hx : a.eval x = .slice (some ad) m c) (hl : news.length = m)
    (hc : ∀ j u, news[j]? = some u → w.cell? (ad.add j) = some u) (h1 : ∀ u ∈ news, u.oneCell' = true) (hn : n + m < 1000000000000) (hbase : base ≤ w.heap.size)
    (h : ∀ v' w', w'.ownsRow base e 1 v' (n + m) (xs ++ news) → w.grownBy w' v.ownBlock → (v'.ownBlock = v.ownBlock ∨ v'.ownBlock = some w.heap.size) → wpList P ops Q rest (a.put o.dst v') w') :
    wpList P ops Q (o :: rest) a w := by
  obtain ⟨ht, h64, i, z, hi, hz, hsz, hby, hzs⟩ := he
  refine wpList_append_own_at w hgd s x t ho base e i z 1 bytes ht hi hz hsz hby hzs (by omega) v n xs hs hown ad m c news hx (by omega) hc h1 ?_ ?_ hbase fun v' w' h2 h3 _ h5 => h v' w' h2 h3 h5
  · unfold maxLen; omega
  · have : (n + m) * bytes ≤ 1000000000000 * 64 := Nat.mul_le_mul (by omega) h64
    omega
theorem rat_cells {α : Type} {R : Rd α} {f : α → Value} (hR : ∀ w S u x, R w S u x → u = f x) {w : World} {S : Nat → Prop} {A : Addr} {l : List α} (h : RAt R w S (some A) l) : ∀ j u, (l.map f)[j]? = some u → w.cell? (A.add j) = some u := by
  intro j u hu
  have hj := (List.getElem?_eq_some_iff.1 hu).1
  have hj' : j < l.length := by simpa using hj
  obtain ⟨b, off, e, _, hc⟩ := h (by omega)
  obtain ⟨u', hu', hr⟩ := hc j hj'
  cases e
  rw [add_none, hu', hR _ _ _ _ hr]
  rw [List.getElem?_map, List.getElem?_eq_getElem hj'] at hu
  exact hu
end Go.Proofs.Ytcebafeaikipmaa.S15

namespace Go.Proofs.Ytcebafeaikipmaa.S15
open Go.RowKit

/-- v is a slice from its block's beginning on, and reads xs -/
def OwnG (w : World) (B : Nat) (t : TypeId) (v : Value) (xs : List Value) : Prop :=
  (v = .slice none 0 0 ∧ xs = []) ∨ ∃ g cap cur, v = .slice (some ⟨g, 0, none⟩) xs.length cap ∧ B ≤ g ∧ w.heap[g]? = some (.cells cur t (0, 0)) ∧ xs.length ≤ cap ∧ cap ≤ cur.size ∧ cap ≤ maxLen ∧ cur.toList.take xs.length = xs
/-- what stands at a block stands there still -/
def Kp (w w' : World) (k : Nat) : Prop := ∀ o, w.heap[k]? = some o → w'.heap[k]? = some o
theorem Kp.at_ {w w' : World} {k : Nat} {o : Obj} (h : Kp w w' k) (ho : w.heap[k]? = some o) : w'.heap[k]? = some o := h o ho
theorem Kp.refl (w : World) (k : Nat) : Kp w w k := fun _ h => h
theorem Kp.trans {a b c : World} {k : Nat} (h : Kp a b k) (h2 : Kp b c k) : Kp a c k := fun o ho => h2 o (h o ho)
theorem Ch.kp {D : Nat → Prop} {w w' : World} (h : Ch D w w') {k : Nat} (hk : ¬ D k) : Kp w w' k := fun _ ho => (h.block k (Array.getElem?_eq_some_iff.1 ho).1 hk).trans ho
theorem kp_new {w w' : World} (hb : Below w.heap.size w w') (k : Nat) : Kp w w' k := fun _ ho => (hb.block k (Array.getElem?_eq_some_iff.1 ho).1).trans ho
section
variable {w w' : World} {B : Nat} {t : TypeId} {v : Value} {xs : List Value}
theorem OwnG.nil (w : World) (B : Nat) (t : TypeId) : OwnG w B t (.slice none 0 0) [] := .inl ⟨rfl, rfl⟩
theorem OwnG.of_own {n : Nat} (h : w.ownsRow B t 1 v n xs) : OwnG w B t v xs := by
  obtain ⟨hl, h⟩ := h
  rcases h with ⟨rfl, h0⟩ | ⟨g, cap, cur, rfl, hg, hh, hnc, hm, hs, ht⟩
  · exact .inl ⟨rfl, List.eq_nil_of_length_eq_zero (by omega)⟩
  · have e : xs.length = n := by omega
    subst e
    exact .inr ⟨g, cap, cur, rfl, hg, hh, hnc, by omega, hm, by simpa using ht⟩
theorem OwnG.kp (h : OwnG w B t v xs) (hk : ∀ g, v.ownBlock = some g → Kp w w' g) : OwnG w' B t v xs := by
  rcases h with h | ⟨g, cap, cur, rfl, hg, hh, h2⟩
  · exact .inl h
  · exact .inr ⟨g, cap, cur, rfl, hg, hk g rfl _ hh, h2⟩
theorem OwnG.lt (h : OwnG w B t v xs) (g : Nat) (hg : v.ownBlock = some g) : B ≤ g ∧ g < w.heap.size := by
  rcases h with ⟨rfl, _⟩ | ⟨g', cap, cur, rfl, hb, hh, h2⟩
  · cases hg
  · cases hg; exact ⟨hb, (Array.getElem?_eq_some_iff.1 hh).1⟩
theorem OwnG.obj (h : OwnG w B t v xs) {g : Nat} (hg : v.ownBlock = some g) : ∃ c, w.heap[g]? = some (.cells c t (0, 0)) := by
  rcases h with ⟨rfl, _⟩ | ⟨g', cap, cur, rfl, hb, hh, h2⟩
  · cases hg
  · cases hg; exact ⟨_, hh⟩
theorem OwnG.shape (h : OwnG w B t v xs) : ∃ A c, v = .slice A xs.length c := by
  rcases h with ⟨rfl, rfl⟩ | ⟨g', cap, cur, rfl, hb, hh, h2⟩
  · exact ⟨none, 0, rfl⟩
  · exact ⟨_, _, rfl⟩
theorem OwnG.form (h : OwnG w B t v xs) (hp : 0 < xs.length) : ∃ g cap, v = .slice (some ⟨g, 0, none⟩) xs.length cap ∧ B ≤ g ∧ g < w.heap.size ∧ xs.length ≤ cap ∧ cap ≤ maxLen := by
  rcases h with ⟨rfl, rfl⟩ | ⟨g', cap, cur, rfl, hb, hh, h1, h2, h3, h4⟩
  · simp at hp
  · exact ⟨g', cap, rfl, hb, (Array.getElem?_eq_some_iff.1 hh).1, h1, h3⟩
theorem OwnG.cell {g n cap : Nat} (h : OwnG w B t (.slice (some ⟨g, 0, none⟩) n cap) xs) {j : Nat} {u : Value} (hj : xs[j]? = some u) : w.cell? ⟨g, j, none⟩ = some u := by
  rcases h with ⟨h, _⟩ | ⟨g', cap', cur, e, hb, hh, h1, h2, h3, h4⟩
  · cases h
  · cases e
    rw [cell_of_row _ _ j _ _ _ hh]
    have hlt := (List.getElem?_eq_some_iff.1 hj).1
    rw [← h4, List.getElem?_take, if_pos hlt] at hj
    simpa using hj
theorem OwnG.frozen {g n cap : Nat} (h : OwnG w B t (.slice (some ⟨g, 0, none⟩) n cap) xs) (j : Nat) : w.frozen? ⟨g, j, none⟩ = false := by
  rcases h with ⟨h, _⟩ | ⟨g', cap', cur, e, hb, hh, h1, h2, h3, h4⟩
  · cases h
  · cases e; exact frozen_of_row _ _ _ _ _ hh
theorem OwnG.len {A : Option Addr} {n cap : Nat} (h : OwnG w B t (.slice A n cap) xs) : n = xs.length ∧ n ≤ cap := by
  rcases h with ⟨h, rfl⟩ | ⟨g', cap', cur, e, hb, hh, h1, h2, h3, h4⟩
  · cases h; exact ⟨rfl, Nat.le_refl _⟩
  · cases e; exact ⟨rfl, h1⟩
theorem OwnG.set {g n cap : Nat} (h : OwnG w B t (.slice (some ⟨g, 0, none⟩) n cap) xs) (j : Nat) (u : Value) : OwnG (w.setCell ⟨g, j, none⟩ u) B t (.slice (some ⟨g, 0, none⟩) n cap) (xs.set j u) := by
  rcases h with ⟨h, _⟩ | ⟨g', cap', cur, e, hb, hh, h1, h2, h3, h4⟩
  · cases h
  · cases e
    refine .inr ⟨g, cap, cur.setIfInBounds j u, by simp, hb, heap_setCell_same w g j _ _ u hh, by simpa using h1, by simpa using h2, h3, ?_⟩
    rw [Array.toList_setIfInBounds, List.length_set, List.take_set, h4]
/-- v[:k], v[:k:c] -/
theorem OwnG.take {g n cap : Nat} (h : OwnG w B t (.slice (some ⟨g, 0, none⟩) n cap) xs) (k c : Nat) (hk : k ≤ xs.length) (hc : c ≤ cap) (hkc : k ≤ c) : OwnG w B t (.slice (some ⟨g, 0, none⟩) k c) (xs.take k) := by
  rcases h with ⟨h, _⟩ | ⟨g', cap', cur, e, hb, hh, h1, h2, h3, h4⟩
  · cases h
  · cases e
    have hl : (xs.take k).length = k := by simp; omega
    refine .inr ⟨g, c, cur, by rw [hl], hb, hh, by omega, by omega, by omega, ?_⟩
    rw [hl]
    conv => rhs; rw [← h4, List.take_take, Nat.min_eq_left hk]
end
theorem kp_set (w : World) (g j : Nat) (u : Value) {k : Nat} (hk : k ≠ g) : Kp w (w.setCell ⟨g, j, none⟩ u) k := (ch_set w g j u).kp hk
/-- append of one value, which lies alone in a block that was just made -/
theorem run_pushG {P : Program} {w : World} {t ty e : TypeId} {bytes B : Nat} {v : Value} {xs : List Value} (he : Elem1 P t e bytes) (hown : OwnG w B e v xs) (g : Nat) (u : Value)
    (hc : w.cell? ⟨g, 0, none⟩ = some u) (h1 : u.oneCell' = true) (hn : xs.length < 1000000000000) (hbase : B ≤ w.heap.size) :
    ∃ v' w', (Builtin.append_ #[t, t] ty #[v, .slice (some ⟨g, 0, none⟩) 1 1]).run P w = .ok v' w' ∧ OwnG w' B e v' (xs ++ [u]) ∧ w.grownBy w' v.ownBlock ∧ NewOr w v v' := by
  obtain ⟨ht, h64, i, z, hi, hz, hsz, hby, hzs⟩ := he
  have hcs : ∀ (j : Nat) (u' : Value), [u][j]? = some u' → w.cell? ((⟨g, 0, none⟩ : Addr).add j) = some u' := by
    intro j u' hu
    match j with
    | 0 => simp at hu; subst hu; exact hc
    | j + 1 => simp at hu
  have h1s : ∀ u' ∈ [u], u'.oneCell' = true := by intro u' hu; simp at hu; subst hu; exact h1
  have hmul : (xs.length + 1) * bytes ≤ 1000000000000 * 64 := Nat.mul_le_mul (by omega) h64
  rcases hown with ⟨rfl, rfl⟩ | ⟨b, cap, cur, rfl, hb, hh, hnc, hcap, hm, htk⟩
  · obtain ⟨v', w', h2, h3, h4, -, h5⟩ := run_append_own_at (P := P) w B t ty e i z 1 bytes ht hi hz hsz hby hzs (by omega) (.slice none 0 0) 0 [] (World.ownsRow_nil w _ e 1) ⟨g, 0, none⟩ 1 1 [u] rfl hcs h1s (by unfold maxLen; omega) (by omega) hbase
    exact ⟨v', w', h2, OwnG.of_own h3, h4, newOr_app h5 (Nat.le_refl _)⟩
  · have hcell : ∀ (j : Nat) (u' : Value), xs[j]? = some u' → w.cell? ((⟨b, 0, none⟩ : Addr).add j) = some u' := by
      intro j u' hu
      rw [add_none, Nat.zero_add, cell_of_row _ _ j _ _ _ hh]
      have hlt := (List.getElem?_eq_some_iff.1 hu).1
      rw [← htk, List.getElem?_take, if_pos hlt] at hu
      simpa using hu
    by_cases hr : xs.length < cap
    · have hsome : xs.length < cur.size := by omega
      have hr2 := run_append_room_cells (P := P) (w := w) t ty e i ht hi b 0 xs.length cap ⟨g, 0, none⟩ 1 1 [u] (by rw [hsz]; rfl) hcs h1s (by omega)
        (by
          intro j hj
          have : j = 0 := by simpa using hj
          subst this
          rw [hsz, cell_of_row _ _ _ _ _ _ hh]
          simp; omega)
        (by intro j hj; exact frozen_of_row _ _ _ _ _ hh)
      rw [hsz] at hr2
      refine ⟨_, _, hr2, ?_, ?_, fun k hk => .inl hk⟩
      · refine .inr ⟨b, cap, cur.setIfInBounds xs.length u, by simp, hb, ?_, by simp; omega, by simpa using hcap, hm, ?_⟩
        · simp only [World.setCells, Nat.mul_one, Nat.zero_add]
          exact heap_setCell_same w b xs.length _ _ u hh
        · rw [Array.toList_setIfInBounds, List.length_append, List.length_singleton, List.take_succ_eq_append_getElem (by simp; exact hsome), List.take_set_of_le (Nat.le_refl _), htk]
          simp
      · simp only [World.setCells, Nat.mul_one, Nat.zero_add]
        refine ⟨rfl, rfl, rfl, by simp, fun k hk hne => ?_⟩
        exact Below.heap_setCell _ _ _ _ (fun e' => hne (by rw [e']; rfl))
    · obtain ⟨v', w', h2, h3, h4⟩ := run_append_arg_grows (P := P) (w := w) t ty e i z 1 bytes ht hi hz hsz hby hzs (by omega) ⟨b, 0, none⟩ xs.length cap xs (by omega) hcell ⟨g, 0, none⟩ 1 1 [u] rfl hcs (by omega) (by unfold maxLen; omega) (by omega)
      refine ⟨v', w', h2, ?_, ⟨h4.os, h4.tape, h4.output, h4.size, fun k hk _ => h4.block k hk (by simp)⟩, ?_⟩
      · have := OwnG.of_own h3
        rcases this with h | ⟨g', cap', cur', e1, e2, e3⟩
        · exact .inl h
        · exact .inr ⟨g', cap', cur', e1, by omega, e3⟩
      · intro k hk
        exact .inr (World.ownsRow.lt h3 k hk).1
theorem wp_pushG {P : Program} {o : Oper} {w : World} {a : Act} {K : Act → World → Prop} {Q : Exit → Act → World → Prop} (s x : Operand) (t : TypeId)
    (ho : o.op = .call { callee := .builtin .append, args := #[s, x], argTypes := #[t, t] }) {e : TypeId} {bytes B : Nat} (he : Elem1 P t e bytes)
    {v : Value} {xs : List Value} (hs : a.eval s = v) (hown : OwnG w B e v xs) (g : Nat) (u : Value) (hx : a.eval x = .slice (some ⟨g, 0, none⟩) 1 1)
    (hc : w.cell? ⟨g, 0, none⟩ = some u) (h1 : u.oneCell' = true) (hn : xs.length < 1000000000000) (hbase : B ≤ w.heap.size)
    (h : ∀ v' w', OwnG w' B e v' (xs ++ [u]) → w.grownBy w' v.ownBlock → NewOr w v v' → K (a.put o.dst v') w') : o.wp P a w K Q := by
  obtain ⟨v', w', hr, h2, h3, h4⟩ := run_pushG (t := t) (ty := o.type) he hown g u hc h1 hn hbase
  unfold Oper.wp execOp
  simp only [ho, resolve, invoke, builtin, Sem.run_bind, Sem.run_pure, Result.andThen_ok, List.map_toArray, List.map_cons, List.map_nil, hs, hx, hr]
  exact h v' w' h2 h3 h4
theorem wpList_pushG {P : Program} {ops : Array Oper} {rest : List Oper} {o : Oper} {w : World} {a : Act} {Q : Exit → Act → World → Prop} (hgd : o.guard = none) (s x : Operand) (t : TypeId)
    (ho : o.op = .call { callee := .builtin .append, args := #[s, x], argTypes := #[t, t] }) {e : TypeId} {bytes B : Nat} (he : Elem1 P t e bytes)
    {v : Value} {xs : List Value} (hs : a.eval s = v) (hown : OwnG w B e v xs) (g : Nat) (u : Value) (hx : a.eval x = .slice (some ⟨g, 0, none⟩) 1 1)
    (hc : w.cell? ⟨g, 0, none⟩ = some u) (h1 : u.oneCell' = true) (hn : xs.length < 1000000000000) (hbase : B ≤ w.heap.size)
    (h : ∀ v' w', OwnG w' B e v' (xs ++ [u]) → w.grownBy w' v.ownBlock → NewOr w v v' → wpList P ops Q rest (a.put o.dst v') w') : wpList P ops Q (o :: rest) a w :=
  wpList_plain hgd fun _ hK => wp_pushG s x t ho he hs hown g u hx hc h1 hn hbase fun v' w' h1 h2 h3 => hK _ _ (h v' w' h1 h2 h3)
theorem step_pushG {P : Program} {ops : Array Oper} {o : Oper} {w : World} {a : Act} {K : Act → World → Prop} {Q : Exit → Act → World → Prop} {E : Prop} (hgd : o.guard = none) (s x : Operand) (t : TypeId)
    (ho : o.op = .call { callee := .builtin .append, args := #[s, x], argTypes := #[t, t] }) {e : TypeId} {bytes B : Nat} (he : Elem1 P t e bytes)
    {v : Value} {xs : List Value} (hs : a.eval s = v) (hown : OwnG w B e v xs) (g : Nat) (u : Value) (hx : a.eval x = .slice (some ⟨g, 0, none⟩) 1 1)
    (hc : w.cell? ⟨g, 0, none⟩ = some u) (h1 : u.oneCell' = true) (hn : xs.length < 1000000000000) (hbase : B ≤ w.heap.size)
    (h : ∀ v' w', OwnG w' B e v' (xs ++ [u]) → w.grownBy w' v.ownBlock → NewOr w v v' → K (a.put o.dst v') w') :
    if Region.wanted o (yielded ops a.tmps) = true then Oper.wp P o a w K Q else E := by
  have hw : Region.wanted o (yielded ops a.tmps) = true := by simp [Region.wanted, hgd]
  rw [if_pos hw]
  exact wp_pushG s x t ho he hs hown g u hx hc h1 hn hbase h
end Go.Proofs.Ytcebafeaikipmaa.S15

namespace Go.Proofs.Ytcebafeaikipmaa.S15

/-- the literal of a number in a question; the other one; its number -/
def ofI (n : Int) : Nat := if n < 0 then 2 * n.natAbs + 1 else 2 * n.natAbs
def nt (x : Nat) : Nat := if x % 2 = 0 then x + 1 else x - 1
def numI (x : Nat) : Int := if x % 2 = 1 then -((x / 2 : Nat) : Int) else ((x / 2 : Nat) : Int)
structure Cl where
  lits : List Nat
  used : Int
  gone : Bool
instance : Inhabited Cl := ⟨⟨[], 0, false⟩⟩
/-- a solver; clauses go by their numbers, in the order in which they were made -/
structure St where
  vars : Nat
  cls : List Cl
  clauses : List Nat
  learned : List Nat
  watch : List (List Nat)
  value : List Nat
  level : List Nat
  reason : List (Option Nat)
  phase : List Bool
  act : List Nat
  step : Nat
  trail : List Nat
  ends : List Nat
  done : Nat
  proof : List (List Int)
  seen : List Bool
def St.cl (s : St) (c : Nat) : Cl := s.cls.getD c ⟨[], 0, false⟩
def St.val (s : St) (x : Nat) : Nat := s.value.getD x 0
def newS (n : Nat) : St :=
  { vars := n, cls := [], clauses := [], learned := [], watch := List.replicate (2 * (n + 1)) [], value := List.replicate (2 * (n + 1)) 0, level := List.replicate (n + 1) 0, reason := List.replicate (n + 1) none,
    phase := List.replicate (n + 1) false, act := List.replicate (n + 1) 0, step := 16, trail := [], ends := [], done := 0, proof := [], seen := List.replicate (n + 1) false }
def setS (s : St) (x : Nat) (b : Option Nat) : St :=
  { s with value := (s.value.set x 1).set (nt x) 2, level := s.level.set (x / 2) s.ends.length, reason := s.reason.set (x / 2) b, trail := s.trail ++ [x] }
def pushW (s : St) (x c : Nat) : St := { s with watch := s.watch.set x (s.watch.getD x [] ++ [c]) }
def attachS (s : St) (c : Nat) : St := pushW (pushW s ((s.cl c).lits.getD 0 0) c) ((s.cl c).lits.getD 1 0) c
def plainF : List Int → List Nat → Option (List Nat)
  | [], l => some l
  | n :: r, l => if nt (ofI n) ∈ l then none else if ofI n ∈ l then plainF r l else plainF r (l ++ [ofI n])
/-- a clause more -/
def newC (s : St) (l : List Nat) (u : Int) : St := { s with cls := s.cls ++ [⟨l, u, false⟩] }
def addS (s : St) (c : List Int) : St × Bool :=
  match plainF c [] with
  | none => (s, true)
  | some [] => (s, false)
  | some [x] => let s' := if s.val x = 0 then setS s x none else s; (s', s'.val x == 1)
  | some l => (attachS { newC s l (-1) with clauses := s.clauses ++ [s.cls.length] } s.cls.length, true)
def swp (l : List Nat) (i j : Nat) : List Nat := (l.set i (l.getD j 0)).set j (l.getD i 0)
def setL (s : St) (c : Nat) (l : List Nat) : St := { s with cls := s.cls.set c { s.cl c with lits := l } }
/-- the first place, counted from i on, whose literal is not false -/
def findF (v : List Nat) : List Nat → Nat → Option Nat
  | [], _ => none
  | x :: r, i => if v.getD x 0 = 2 then findF v r (i + 1) else some i
/-- the false one of the two is put last -/
def turnL (l : List Nat) (x : Nat) : List Nat := if l.getD 0 0 = x then swp l 0 1 else l
def lookS (s : St) (c x : Nat) : St × Bool × Bool :=
  let l := turnL (s.cl c).lits x
  let s := setL s c l
  if s.val (l.getD 0 0) = 1 then (s, false, true)
  else match findF s.value (l.drop 2) 2 with
    | some i => (pushW (setL s c (swp l 1 i)) ((swp l 1 i).getD 1 0) c, true, true)
    | none => if s.val (l.getD 0 0) = 2 then (s, false, false) else (setS s (l.getD 0 0) (some c), false, true)
def innerS (x : Nat) : List Nat → St → List Nat → Option Nat → St × List Nat × Option Nat
  | [], s, kept, bad => (s, kept, bad)
  | c :: r, s, kept, bad =>
    if (s.cl c).gone then innerS x r s kept bad
    else match bad with
      | some b => innerS x r s (kept ++ [c]) (some b)
      | none => match lookS s c x with
        | (s', moved, ok) => innerS x r s' (if moved then kept else kept ++ [c]) (if ok then none else some c)
def unitsS : Nat → St → St × Option Nat
  | 0, s => (s, none)
  | f + 1, s =>
    if s.done < s.trail.length then
      match innerS (nt (s.trail.getD s.done 0)) (s.watch.getD (nt (s.trail.getD s.done 0)) []) { s with done := s.done + 1 } [] none with
      | (s', kept, some b) => ({ s' with watch := s'.watch.set (nt (s.trail.getD s.done 0)) kept }, some b)
      | (s', kept, none) => unitsS f { s' with watch := s'.watch.set (nt (s.trail.getD s.done 0)) kept }
    else (s, none)
def undoS (s : St) (x : Nat) : St :=
  { s with phase := s.phase.set (x / 2) (x % 2 == 0), value := (s.value.set x 0).set (nt x) 0, reason := s.reason.set (x / 2) none }
def backS (s : St) (lv : Nat) : St :=
  if s.ends.length ≤ lv then s
  else { (s.trail.drop (s.ends.getD lv 0)).foldl undoS s with trail := s.trail.take (s.ends.getD lv 0), ends := s.ends.take lv, done := s.ends.getD lv 0 }
def meetS (s : St) (v : Nat) : St :=
  if s.act.getD v 0 + s.step < 1099511627776 then { s with act := s.act.set v (s.act.getD v 0 + s.step) }
  else { s with act := (s.act.set v (s.act.getD v 0 + s.step)).map (· / 1048576), step := max 16 (s.step / 1048576) }
/-- one literal of a clause that is gone through -/
def litS (p : St × Nat × List Nat) (x : Nat) : St × Nat × List Nat :=
  if p.1.seen.getD (x / 2) false = true ∨ p.1.level.getD (x / 2) 0 = 0 ∨ p.1.val x ≠ 2 then p
  else
    let s := meetS { p.1 with seen := p.1.seen.set (x / 2) true } (x / 2)
    if p.1.level.getD (x / 2) 0 = p.1.ends.length then (s, p.2.1 + 1, p.2.2) else (s, p.2.1, p.2.2 ++ [x])
/-- the last place ahead of p whose variable was seen -/
def downF (seen : List Bool) (trail : List Nat) : Nat → Nat
  | 0 => 0
  | p + 1 => if seen.getD (trail.getD p 0 / 2) false then p else downF seen trail p
def bumpS (s : St) (c : Nat) : St := if 0 ≤ (s.cl c).used then { s with cls := s.cls.set c { s.cl c with used := (s.cl c).used + 1 } } else s
def walkS : Nat → St → Nat → Nat → Nat → List Nat → St × List Nat
  | 0, s, _, _, _, out => (s, out)
  | f + 1, s, c, opn, at_, out =>
    match (s.cl c).lits.foldl litS (bumpS s c, opn, out) with
    | (s, opn, out) =>
      let p := downF s.seen s.trail at_
      let x := s.trail.getD p 0
      let s := { s with seen := s.seen.set (x / 2) false }
      if opn = 1 then (s, out.set 0 (nt x))
      else match s.reason.getD (x / 2) none with
        | none => (s, out)
        | some c' => walkS f s c' (opn - 1) p out
/-- the literal of the greatest level is put second; what was seen is forgotten: k more from place i on -/
def maxS : Nat → Nat → St → List Nat → Nat → St × List Nat × Nat
  | 0, _, s, out, lv => (s, out, lv)
  | k + 1, i, s, out, lv =>
    let x := out.getD (i + 1) 0
    let s := { s with seen := s.seen.set (x / 2) false }
    if lv < s.level.getD (x / 2) 0 then maxS k (i + 1) s (swp out 1 (i + 1)) (s.level.getD (x / 2) 0)
    else maxS k (i + 1) s out lv
def learnS (s : St) (c : Nat) : St × List Nat × Nat :=
  match walkS (s.trail.length + 1) s c 0 s.trail.length [0] with
  | (s, out) => maxS (out.length - 1) 0 s out 0
def keepS (s : St) (l : List Nat) : St :=
  let s := { s with proof := s.proof ++ [l.map numI] }
  if l.length = 1 then setS s (l.getD 0 0) none
  else setS (attachS { newC s l 0 with learned := s.learned ++ [s.cls.length] } s.cls.length) (l.getD 0 0) (some s.cls.length)
/-- one of the sorted learned clauses -/
def forgS (half : Nat) : List Nat → Nat → St → List Nat → St × List Nat
  | [], _, s, left => (s, left)
  | c :: r, i, s, left =>
    if i < half ∧ 2 < (s.cl c).lits.length ∧ s.reason.getD ((s.cl c).lits.getD 0 0 / 2) none ≠ some c then forgS half r (i + 1) { s with cls := s.cls.set c { s.cl c with gone := true } } left
    else forgS half r (i + 1) { s with cls := s.cls.set c { s.cl c with used := (s.cl c).used / 2 } } (left ++ [c])
def forgetS (s : St) (l : List Nat) : St := match forgS (l.length / 2) l 0 s [] with | (s, left) => { s with learned := left }
def bestS (s : St) : Nat → Nat → Nat → Nat
  | 0, _, b => b
  | k + 1, v, b => bestS s k (v + 1) (if s.val (2 * v) = 0 ∧ (b = 0 ∨ s.act.getD b 0 < s.act.getD v 0) then v else b)
def decideS (s : St) : Option St :=
  let b := bestS s s.vars 1 0
  if b = 0 then none
  else some (setS { s with ends := s.ends ++ [s.trail.length] } (if s.phase.getD b false then 2 * b else 2 * b + 1) none)
def truthsS (s : St) : List Bool := (List.range s.vars).map fun i => s.val (2 * (i + 1)) == 1
/-- how a search ends -/
inductive SAns where
  | opn (conf : Nat)
  | unsat (proof : List (List Int)) (conf : Nat)
  | sat (truths : List Bool) (conf : Nat)
structure Ct where
  st : St
  conf : Nat
  rest : Nat
  left : Int
  room : Nat
/-- ahead of a decision -/
def restS (k : Ct) (s : St) : Ct := if k.left ≤ 0 then { k with st := backS s 0, rest := k.rest + k.rest / 2, left := ((k.rest + k.rest / 2 : Nat) : Int) } else { k with st := s }
def roomS (k : Ct) (l : List Nat) : Ct := if k.room < k.st.learned.length then { k with st := forgetS k.st l, room := k.room + k.room / 4 } else k
/-- a round of the search; l: the learned clauses, as they are sorted -/
def roundS (most : Nat) (k : Ct) (l : List Nat) : Ct ⊕ SAns :=
  match unitsS (k.st.vars + 1) k.st with
  | (s, some c) =>
    if most < k.conf + 1 then .inr (.opn (k.conf + 1))
    else if s.ends.length = 0 then .inr (.unsat (s.proof ++ [[]]) (k.conf + 1))
    else match learnS s c with
      | (s, out, lv) =>
        let s := keepS (backS s lv) out
        .inl { k with st := { s with step := s.step + s.step / 16 }, conf := k.conf + 1, left := k.left - 1 }
  | (s, none) =>
    let k := roomS (restS k s) l
    match decideS k.st with
    | none => .inr (.sat (truthsS k.st) k.conf)
    | some s => .inl { k with st := s }
def addAll : List (List Int) → St → St × Bool
  | [], s => (s, true)
  | c :: r, s => match addS s c with
    | (s, true) => addAll r s
    | (s, false) => (s, false)
/-- the rounds where nothing is forgotten -/
def runS (most : Nat) : Nat → Ct → Option SAns
  | 0, _ => none
  | f + 1, k => match roundS most k [] with
    | .inl k => if k.st.learned.length ≤ 200 then runS most f k else none
    | .inr a => some a
def startS (s : St) : Ct := ⟨s, 0, 50, 50, 200⟩
def solveS (n : Nat) (cs : List (List Int)) (most fuel : Nat) : Option SAns :=
  match addAll cs (newS n) with
  | (_, false) => some (.unsat [[]] 0)
  | (s, true) => runS most fuel (startS s)
end Go.Proofs.Ytcebafeaikipmaa.S15

namespace Go.Proofs.Ytcebafeaikipmaa.S15
open Go.RowKit

/-- the rows of a solver: its clauses, the learned ones, the row of watches, values, levels, reasons, phases, activities, trail, ends, proof, seen; a literal's watches, a clause of the proof, a clause's literals -/
inductive Rl where
  | cs | ln | wt | va | le | re | ph | ac | tr | en | pr | se
  | wr (i : Nat)
  | pw (i : Nat)
  | li (c : Nat)
deriving DecidableEq
def ty : Rl → TypeId
  | .cs | .ln | .re | .wr _ => 96
  | .wt => 86
  | .va => 5
  | .le | .ac | .en | .pw _ => 3
  | .ph | .se => 4
  | .tr | .li _ => 94
  | .pr => 37
theorem ty_ne (r : Rl) : ty r ≠ 91 ∧ ty r ≠ 98 := by cases r <;> exact ⟨by simp [ty], by simp [ty]⟩
/-- where a clause lies -/
def pC (ad : List Nat) (c : Nat) : Value := .pointer (some ⟨ad.getD c 0, 0, none⟩)
def oC (ad : List Nat) (c : Option Nat) : Value := .pointer (c.map fun c => ⟨ad.getD c 0, 0, none⟩)
abbrev iN (l : List Nat) : List Value := l.map fun (n : Nat) => Value.int .i64 (n : Int)
def cont (s : St) (ad : List Nat) (vl : Rl → Value) : Rl → List Value
  | .cs => s.clauses.map (pC ad)
  | .ln => s.learned.map (pC ad)
  | .wt => (List.range s.watch.length).map fun i => vl (.wr i)
  | .va => s.value.map fun (x : Nat) => Value.int .u8 (x : Int)
  | .le => iN s.level
  | .re => s.reason.map (oC ad)
  | .ph => s.phase.map .bool
  | .ac => iN s.act
  | .tr => iN s.trail
  | .en => iN s.ends
  | .pr => (List.range s.proof.length).map fun i => vl (.pw i)
  | .se => s.seen.map .bool
  | .wr i => (s.watch.getD i []).map (pC ad)
  | .pw i => (s.proof.getD i []).map (.int .i64)
  | .li c => iN (s.cl c).lits
/-- the solver's own variables -/
def fieldsS (s : St) (vl : Rl → Value) : Array Value :=
  #[.int .i64 (s.vars : Int), vl .cs, vl .ln, vl .wt, vl .va, vl .le, vl .re, vl .ph, vl .ac, .int .i64 (s.step : Int), vl .tr, vl .en, .int .i64 (s.done : Int), vl .pr, vl .se]
def fieldsC (s : St) (vl : Rl → Value) (c : Nat) : Array Value := #[vl (.li c), .int .i64 (s.cl c).used, .bool (s.cl c).gone]
structure SAt (w : World) (B S : Nat) (ad : List Nat) (vl : Rl → Value) (s : St) : Prop where
  rows : ∀ r, OwnG w B (ty r) (vl r) (cont s ad vl r)
  apart : ∀ r r' g, (vl r).ownBlock = some g → (vl r').ownBlock = some g → r = r'
  hS : w.heap[S]? = some (.cells (fieldsS s vl) 91 (0, 0))
  cl : ∀ c, c < s.cls.length → w.heap[ad.getD c 0]? = some (.cells (fieldsC s vl c) 98 (0, 0))
  loS : B ≤ S
  loC : ∀ c, c < s.cls.length → B ≤ ad.getD c 0
  inj : ∀ c d, c < s.cls.length → d < s.cls.length → ad.getD c 0 = ad.getD d 0 → c = d
  adl : ad.length = s.cls.length
section
variable {w w' : World} {B S : Nat} {ad : List Nat} {vl : Rl → Value} {s s' : St}
theorem SAt.lt (h : SAt w B S ad vl s) : S < w.heap.size := (Array.getElem?_eq_some_iff.1 h.hS).1
theorem SAt.size (h : SAt w B S ad vl s) : B ≤ w.heap.size := Nat.le_trans h.loS (Nat.le_of_lt h.lt)
theorem SAt.neS (h : SAt w B S ad vl s) (r : Rl) {g : Nat} (hg : (vl r).ownBlock = some g) : g ≠ S := by
  rintro rfl
  obtain ⟨c, h3⟩ := (h.rows r).obj hg
  rw [h.hS] at h3
  simp at h3
  exact (ty_ne r).1 h3.2.symm
theorem SAt.neC (h : SAt w B S ad vl s) (r : Rl) {g c : Nat} (hg : (vl r).ownBlock = some g) (hc : c < s.cls.length) : g ≠ ad.getD c 0 := by
  rintro rfl
  obtain ⟨c', h3⟩ := (h.rows r).obj hg
  rw [h.cl c hc] at h3
  simp at h3
  exact (ty_ne r).2 h3.2.symm
theorem SAt.neSC (h : SAt w B S ad vl s) {c : Nat} (hc : c < s.cls.length) : S ≠ ad.getD c 0 := by
  intro e
  have h2 := h.cl c hc
  rw [← e, h.hS] at h2
  simp at h2
theorem SAt.kp (h : SAt w B S ad vl s) (k1 : ∀ r g, (vl r).ownBlock = some g → Kp w w' g) (k2 : Kp w w' S) (k3 : ∀ c, c < s.cls.length → Kp w w' (ad.getD c 0)) : SAt w' B S ad vl s :=
  ⟨fun r => (h.rows r).kp (k1 r), h.apart, k2 _ h.hS, fun c hc => k3 c hc _ (h.cl c hc), h.loS, h.loC, h.inj, h.adl⟩
theorem SAt.new (h : SAt w B S ad vl s) (hb : Below w.heap.size w w') : SAt w' B S ad vl s := h.kp (fun _ _ _ => kp_new hb _) (kp_new hb _) (fun _ _ => kp_new hb _)
/-- the solver's variables, as the walk reads them -/
theorem SAt.cellS (h : SAt w B S ad vl s) {k : Nat} {v : Value} (hk : (fieldsS s vl)[k]? = some v) : w.cell? ⟨S, k, none⟩ = some v := (cell_of_row _ _ k _ _ (0, 0) h.hS).trans hk
theorem SAt.frozenS (h : SAt w B S ad vl s) (k : Nat) : w.frozen? ⟨S, k, none⟩ = false := frozen_of_row _ _ k _ _ h.hS
theorem SAt.cellC (h : SAt w B S ad vl s) {c k : Nat} (hc : c < s.cls.length) {v : Value} (hk : (fieldsC s vl c)[k]? = some v) : w.cell? ⟨ad.getD c 0, k, none⟩ = some v := (cell_of_row _ _ k _ _ (0, 0) (h.cl c hc)).trans hk
theorem SAt.frozenC (h : SAt w B S ad vl s) {c : Nat} (hc : c < s.cls.length) (k : Nat) : w.frozen? ⟨ad.getD c 0, k, none⟩ = false := frozen_of_row _ _ k _ _ (h.cl c hc)
/-- one cell of a row is set; what no slice of the solver changes by -/
theorem SAt.setRow (h : SAt w B S ad vl s) (r : Rl) {g n cap : Nat} (hv : vl r = .slice (some ⟨g, 0, none⟩) n cap) (j : Nat) (u : Value) (s' : St)
    (hc : ∀ r', r' ≠ r → cont s' ad vl r' = cont s ad vl r') (hr : cont s' ad vl r = (cont s ad vl r).set j u)
    (hf : fieldsS s' vl = fieldsS s vl) (hcl : s'.cls.length = s.cls.length) (hfc : ∀ c, c < s.cls.length → fieldsC s' vl c = fieldsC s vl c) : SAt (w.setCell ⟨g, j, none⟩ u) B S ad vl s' := by
  have hg : (vl r).ownBlock = some g := by rw [hv]; rfl
  refine ⟨fun r' => ?_, h.apart, ?_, fun c hc' => ?_, h.loS, fun c hc' => h.loC c (by omega), fun c d hc' hd => h.inj c d (by omega) (by omega), by rw [h.adl]; omega⟩
  · by_cases e : r' = r
    · subst e
      have h2 := h.rows r'
      rw [hv] at h2
      rw [hv, hr]
      exact h2.set j u
    · rw [hc r' e]
      exact (h.rows r').kp fun g' hg' => kp_set w g j u fun e2 => e (h.apart _ _ _ hg' (e2 ▸ hg))
  · rw [hf]; exact (kp_set w g j u (fun e => h.neS r hg e.symm)).at_ h.hS
  · rw [hfc c (by omega)]; exact (kp_set w g j u (fun e => h.neC r hg (by omega) e.symm)).at_ (h.cl c (by omega))
/-- one of the solver's own numbers is set -/
theorem SAt.setNum (h : SAt w B S ad vl s) (k : Nat) (u : Value) (s' : St) (hc : ∀ r, cont s' ad vl r = cont s ad vl r) (hf : fieldsS s' vl = (fieldsS s vl).setIfInBounds k u)
    (hcl : s'.cls.length = s.cls.length) (hfc : ∀ c, c < s.cls.length → fieldsC s' vl c = fieldsC s vl c) : SAt (w.setCell ⟨S, k, none⟩ u) B S ad vl s' := by
  refine ⟨fun r => ?_, h.apart, ?_, fun c hc' => ?_, h.loS, fun c hc' => h.loC c (by omega), fun c d hc' hd => h.inj c d (by omega) (by omega), by rw [h.adl]; omega⟩
  · rw [hc r]; exact (h.rows r).kp fun g hg => kp_set w S k u (h.neS r hg)
  · rw [hf]; exact heap_setCell_same w S k _ _ u h.hS
  · rw [hfc c (by omega)]; exact (kp_set w S k u (fun e => h.neSC (c := c) (by omega) e.symm)).at_ (h.cl c (by omega))
/-- one of a clause's own variables is set -/
theorem SAt.setCl (h : SAt w B S ad vl s) {c : Nat} (hlt : c < s.cls.length) (k : Nat) (u : Value) (s' : St) (hc : ∀ r, cont s' ad vl r = cont s ad vl r) (hf : fieldsS s' vl = fieldsS s vl)
    (hcl : s'.cls.length = s.cls.length) (hfc : ∀ d, d < s.cls.length → d ≠ c → fieldsC s' vl d = fieldsC s vl d) (hfc2 : fieldsC s' vl c = (fieldsC s vl c).setIfInBounds k u) : SAt (w.setCell ⟨ad.getD c 0, k, none⟩ u) B S ad vl s' := by
  refine ⟨fun r => ?_, h.apart, ?_, fun d hd => ?_, h.loS, fun d hd => h.loC d (by omega), fun d d' hd hd' => h.inj d d' (by omega) (by omega), by rw [h.adl]; omega⟩
  · rw [hc r]; exact (h.rows r).kp fun g hg => kp_set w _ k u (h.neC r hg hlt)
  · rw [hf]; exact (kp_set w _ k u (h.neSC hlt)).at_ h.hS
  · by_cases e : d = c
    · subst e; rw [hfc2]; exact heap_setCell_same w _ k _ _ u (h.cl d hlt)
    · rw [hfc d (by omega) e]
      exact (kp_set w _ k u (fun e2 => e (h.inj d c (by omega) hlt e2))).at_ (h.cl d (by omega))
def updV (vl : Rl → Value) (r : Rl) (v : Value) : Rl → Value := fun r' => if r' = r then v else vl r'
theorem updV_same (vl : Rl → Value) (r : Rl) (v : Value) : updV vl r v r = v := by unfold updV; rw [if_pos rfl]
theorem updV_ne (vl : Rl → Value) {r r' : Rl} (v : Value) (h : r' ≠ r) : updV vl r v r' = vl r' := by unfold updV; rw [if_neg h]
theorem apart_upd (h : SAt w B S ad vl s) (r : Rl) {v : Value} (hn : NewOr w (vl r) v) : ∀ r1 r2 g, (updV vl r v r1).ownBlock = some g → (updV vl r v r2).ownBlock = some g → r1 = r2 := by
  have key : ∀ r1 g, r1 ≠ r → v.ownBlock = some g → (vl r1).ownBlock = some g → False := fun r1 g hne h1 h2 => by
    rcases hn g h1 with h3 | h3
    · exact hne (h.apart _ _ _ h2 h3)
    · have := ((h.rows r1).lt g h2).2; omega
  intro r1 r2 g h1 h2
  by_cases e1 : r1 = r
  · by_cases e2 : r2 = r
    · rw [e1, e2]
    · subst e1
      rw [updV_same] at h1
      rw [updV_ne _ _ e2] at h2
      exact (key r2 g e2 h1 h2).elim
  · by_cases e2 : r2 = r
    · subst e2
      rw [updV_same] at h2
      rw [updV_ne _ _ e1] at h1
      exact (key r1 g e1 h2 h1).elim
    · rw [updV_ne _ _ e1] at h1
      rw [updV_ne _ _ e2] at h2
      exact h.apart _ _ _ h1 h2
/-- a row that a field of the solver holds has another slice (it has grown, or was cut) -/
theorem SAt.setSl (h : SAt w B S ad vl s) (r : Rl) {v : Value} {w5 : World} (k : Nat) (s' : St) (hown : OwnG w5 B (ty r) v (cont s' ad (updV vl r v) r)) (hch : Ch (fun i => some i = (vl r).ownBlock) w w5) (hn : NewOr w (vl r) v)
    (hc : ∀ r', r' ≠ r → cont s' ad (updV vl r v) r' = cont s ad vl r') (hf : fieldsS s' (updV vl r v) = (fieldsS s vl).setIfInBounds k v)
    (hcl : s'.cls.length = s.cls.length) (hfc : ∀ c, c < s.cls.length → fieldsC s' (updV vl r v) c = fieldsC s vl c) :
    SAt (w5.setCell ⟨S, k, none⟩ v) B S ad (updV vl r v) s' ∧ w5.heap[S]? = some (.cells (fieldsS s vl) 91 (0, 0)) := by
  have hS5 := (hch.kp (k := S) (fun e => h.neS r e.symm rfl)).at_ h.hS
  refine ⟨⟨fun r' => ?_, apart_upd h r hn, ?_, fun c hc' => ?_, h.loS, fun c hc' => h.loC c (by omega), fun c d hc' hd => h.inj c d (by omega) (by omega), by rw [h.adl]; omega⟩, hS5⟩
  · by_cases e : r' = r
    · subst e
      rw [updV_same]
      refine hown.kp fun g hg => kp_set w5 S k v ?_
      rcases hn g hg with h3 | h3
      · exact h.neS r' h3
      · have := h.lt; omega
    · rw [hc r' e, updV_ne _ _ e]
      exact (h.rows r').kp fun g hg => (hch.kp fun e2 => e (h.apart _ _ _ hg e2.symm)).trans (kp_set w5 S k v (h.neS r' hg))
  · rw [hf]; exact heap_setCell_same w5 S k _ _ v hS5
  · rw [hfc c (by omega)]
    exact (kp_set w5 S k v (fun e => h.neSC (c := c) (by omega) e.symm)).at_ ((hch.kp fun e => h.neC r (c := c) e.symm (by omega) rfl).at_ (h.cl c (by omega)))
/-- a literal's watches have another slice -/
theorem SAt.setWr (h : SAt w B S ad vl s) (x : Nat) {v : Value} {w5 : World} {gw n cap : Nat} (hv : vl .wt = .slice (some ⟨gw, 0, none⟩) n cap) (s' : St) (hown : OwnG w5 B 96 v (cont s' ad (updV vl (.wr x) v) (.wr x))) (hch : Ch (fun i => some i = (vl (.wr x)).ownBlock) w w5) (hn : NewOr w (vl (.wr x)) v)
    (hc : ∀ r', r' ≠ .wr x → r' ≠ .wt → cont s' ad (updV vl (.wr x) v) r' = cont s ad vl r') (hw : cont s' ad (updV vl (.wr x) v) .wt = (cont s ad vl .wt).set x v) (hf : fieldsS s' vl = fieldsS s vl)
    (hcl : s'.cls.length = s.cls.length) (hfc : ∀ c, c < s.cls.length → fieldsC s' vl c = fieldsC s vl c) :
    SAt (w5.setCell ⟨gw, x, none⟩ v) B S ad (updV vl (.wr x) v) s' ∧ OwnG w5 B 86 (vl .wt) (cont s ad vl .wt) ∧ w5.heap[S]? = some (.cells (fieldsS s vl) 91 (0, 0)) := by
  have hgw : (vl .wt).ownBlock = some gw := by rw [hv]; rfl
  have hS5 := (hch.kp (k := S) (fun e => h.neS _ e.symm rfl)).at_ h.hS
  have hW5 : OwnG w5 B 86 (vl .wt) (cont s ad vl .wt) := (h.rows .wt).kp fun g hg => hch.kp fun e2 => by
    have := h.apart _ _ _ hg e2.symm
    cases this
  have hfS : fieldsS s' (updV vl (.wr x) v) = fieldsS s' vl := by unfold fieldsS updV; simp
  have hfC : ∀ c, fieldsC s' (updV vl (.wr x) v) c = fieldsC s' vl c := fun c => by unfold fieldsC updV; simp
  refine ⟨⟨fun r' => ?_, apart_upd h _ hn, ?_, fun c hc' => ?_, h.loS, fun c hc' => h.loC c (by omega), fun c d hc' hd => h.inj c d (by omega) (by omega), by rw [h.adl]; omega⟩, hW5, hS5⟩
  · by_cases e : r' = .wr x
    · subst e
      rw [updV_same]
      refine hown.kp fun g hg => kp_set w5 gw x v ?_
      rcases hn g hg with h3 | h3
      · rintro rfl
        have := h.apart _ _ _ h3 hgw
        cases this
      · have := ((h.rows .wt).lt gw hgw).2; omega
    · by_cases e3 : r' = .wt
      · subst e3
        rw [hw, updV_ne _ _ e, hv]
        rw [hv] at hW5
        exact hW5.set x v
      · rw [hc r' e e3, updV_ne _ _ e]
        exact (h.rows r').kp fun g hg => (hch.kp fun e2 => e (h.apart _ _ _ hg e2.symm)).trans (kp_set w5 gw x v fun e2 => e3 (h.apart _ _ _ hg (e2 ▸ hgw)))
  · rw [hfS, hf]; exact (kp_set w5 gw x v (fun e => h.neS _ hgw e.symm)).at_ hS5
  · rw [hfC, hfc c (by omega)]
    exact (kp_set w5 gw x v (fun e => h.neC _ (c := c) hgw (by omega) e.symm)).at_ ((hch.kp fun e => h.neC _ (c := c) e.symm (by omega) rfl).at_ (h.cl c (by omega)))
end
end Go.Proofs.Ytcebafeaikipmaa.S15

namespace Go.Proofs.Ytcebafeaikipmaa.S15
open Go.RowKit

theorem wrap_nat {x : Int} {n : Nat} (h : x = n) (hn : n < 9223372036854775808) : IntKind.i64.wrap x = n := by
  subst h
  unfold IntKind.wrap
  simp [IntKind.bits, IntKind.signed]
  omega
theorem xor_one (x : Nat) : x ^^^ 1 = nt x := by
  have h1 : (x ^^^ 1) / 2 = x / 2 := by rw [Nat.xor_div_two]; simp
  have h2 : (x ^^^ 1) % 2 = (x + 1) % 2 := by
    have h := @Nat.xor_mod_two_eq_one x 1
    have : (x ^^^ 1) % 2 < 2 := Nat.mod_lt _ (by omega)
    by_cases hx : x % 2 = 1
    · have : ¬ (x ^^^ 1) % 2 = 1 := fun e => by have := h.1 e; simp at this; omega
      omega
    · have : (x ^^^ 1) % 2 = 1 := h.2 (by simp; omega)
      omega
  unfold nt
  split <;> omega
theorem or_one (x : Nat) : (2 * x) ||| 1 = 2 * x + 1 := by
  have h1 : ((2 * x) ||| 1) / 2 = x := by rw [Nat.or_div_two]; simp
  have h2 : ((2 * x) ||| 1) % 2 = 1 := by rw [Nat.or_mod_two_eq_one]; simp
  omega
theorem ofInt_nat (x : Nat) : BitVec.ofInt 64 (x : Int) = BitVec.ofNat 64 x := by simp
theorem wrap_toNat (x : Nat) (h : x < 9223372036854775808) : IntKind.i64.wrap ((x : Nat) : Int) = x := wrap_nat rfl (by omega)
theorem bits_xor (x : Nat) (h : x ≤ 1000000000000) : bits .xor .i64 (x : Int) 1 = (nt x : Nat) := by
  have hn : nt x ≤ x + 1 := by unfold nt; split <;> omega
  show IntKind.i64.wrap ((BitVec.ofInt 64 (x : Int) ^^^ BitVec.ofInt 64 ((1 : Nat) : Int)).toNat : Int) = _
  rw [ofInt_nat, ofInt_nat, BitVec.toNat_xor, BitVec.toNat_ofNat, BitVec.toNat_ofNat, Nat.mod_eq_of_lt (by omega), Nat.mod_eq_of_lt (by omega), xor_one, wrap_toNat _ (by omega)]
theorem bits_and (x : Nat) (h : x ≤ 1000000000000) : bits .and .i64 (x : Int) 1 = (x % 2 : Nat) := by
  show IntKind.i64.wrap ((BitVec.ofInt 64 (x : Int) &&& BitVec.ofInt 64 ((1 : Nat) : Int)).toNat : Int) = _
  rw [ofInt_nat, ofInt_nat, BitVec.toNat_and, BitVec.toNat_ofNat, BitVec.toNat_ofNat, Nat.mod_eq_of_lt (by omega), Nat.mod_eq_of_lt (by omega), Nat.and_one_is_mod, wrap_toNat _ (by omega)]
theorem bits_or (x : Nat) (h : x ≤ 1000000000000) : bits .or .i64 ((2 * x : Nat) : Int) 1 = (2 * x + 1 : Nat) := by
  show IntKind.i64.wrap ((BitVec.ofInt 64 ((2 * x : Nat) : Int) ||| BitVec.ofInt 64 ((1 : Nat) : Int)).toNat : Int) = _
  rw [ofInt_nat, ofInt_nat, BitVec.toNat_or, BitVec.toNat_ofNat, BitVec.toNat_ofNat, Nat.mod_eq_of_lt (by omega), Nat.mod_eq_of_lt (by omega), or_one, wrap_toNat _ (by omega)]
theorem of_any (n : Int) (w : World) (hn : n.natAbs ≤ 1000000000) : Calls Try.prog 58 #[.int .i64 n] w fun e w' => e = .returned (.int .i64 (ofI n : Nat)) ∧ w' = w := by
  rcases Int.lt_or_le n 0 with h | h
  · go_enter Try.func58, Try.ntmps58
    go_wp2
    go_ret
    obtain ⟨k, rfl⟩ : ∃ k : Nat, n = -(k : Int) := ⟨n.natAbs, by omega⟩
    have e : bits .or .i64 (- -(k : Int) * 2) 1 = (ofI (-(k : Int)) : Nat) := by
      rw [show - -(k : Int) * 2 = ((2 * k : Nat) : Int) by omega, bits_or k (by omega)]
      unfold ofI
      rw [if_pos h]
      simp
    exact ⟨congrArg (fun z => Ending.returned (.int .i64 z)) e, rfl⟩
  · go_enter Try.func58, Try.ntmps58
    go_wp2
    go_ret
    have e : n * 2 = (ofI n : Nat) := by
      unfold ofI
      rw [if_neg (by omega)]
      omega
    exact ⟨congrArg (fun z => Ending.returned (.int .i64 z)) e, rfl⟩
theorem not_any (x : Nat) (w : World) (hx : x ≤ 1000000000) : Calls Try.prog 60 #[.int .i64 (x : Int)] w fun e w' => e = .returned (.int .i64 (nt x : Nat)) ∧ w' = w := by
  go_enter Try.func60, Try.ntmps60
  go_wp2
  go_ret
  exact ⟨congrArg (fun z => Ending.returned (.int .i64 z)) (bits_xor x (by omega)), rfl⟩
theorem variable_any (x : Nat) (w : World) (_hx : x ≤ 1000000000) : Calls Try.prog 61 #[.int .i64 (x : Int)] w fun e w' => e = .returned (.int .i64 ((x / 2 : Nat) : Int)) ∧ w' = w := by
  go_enter Try.func61, Try.ntmps61
  go_wp2
  go_ret
  exact ⟨congrArg (fun z => Ending.returned (.int .i64 z)) (by omega), rfl⟩
theorem variable_is {x v : Nat} (h : x / 2 = v) (w : World) (hx : x ≤ 1000000000) : Calls Try.prog 61 #[.int .i64 (x : Int)] w fun e w' => e = .returned (.int .i64 (v : Int)) ∧ w' = w := by
  subst h; exact variable_any x w hx
theorem number_any (x : Nat) (w : World) (hx : x ≤ 1000000000) : Calls Try.prog 64 #[.int .i64 (x : Int)] w fun e w' => e = .returned (.int .i64 (numI x)) ∧ w' = w := by
  have hb := bits_and x (by omega)
  rcases Nat.mod_two_eq_zero_or_one x with h2 | h2 <;> rw [h2] at hb
  all_goals
   go_enter Try.func64, Try.ntmps64
   go_wp2_with (go_at_call 61; refine (variable_any x _ hx).mono ?_; rintro e w1 ⟨rfl, rfl⟩)
   go_ret
   refine ⟨congrArg (fun z => Ending.returned (.int .i64 z)) ?_, rfl⟩
   unfold numI
   rw [h2]
   simp
theorem now_any {w : World} {B S : Nat} {ad : List Nat} {vl : Rl → Value} {s : St} (h : SAt w B S ad vl s) : Calls Try.prog 51 #[.pointer (some ⟨S, 0, none⟩)] w fun e w' => e = .returned (.int .i64 (s.ends.length : Nat)) ∧ w' = w := by
  obtain ⟨A, c, hv⟩ := (h.rows .en).shape
  have c0 := h.cellS (k := 11) (v := vl .en) rfl
  rw [hv] at c0
  clear h hv
  go_enter Try.func51, Try.ntmps51
  go_wp2
  go_ret
  simp [cont]
end Go.Proofs.Ytcebafeaikipmaa.S15

namespace Go.Proofs.Ytcebafeaikipmaa.S15
open Go.RowKit

/-- the solver's blocks -/
def FP (S : Nat) (ad : List Nat) (vl : Rl → Value) (k : Nat) : Prop := k = S ∨ (∃ r, (vl r).ownBlock = some k) ∨ k ∈ ad
/-- from w on nothing but the solver's blocks has changed -/
structure Stp (w : World) (B S : Nat) (ad : List Nat) (vl : Rl → Value) (w' : World) (ad' : List Nat) (vl' : Rl → Value) : Prop where
  below : Below B w w'
  ch : ∀ k, k < w.heap.size → ¬ FP S ad vl k → w'.heap[k]? = w.heap[k]?
  fp : ∀ k, FP S ad' vl' k → FP S ad vl k ∨ w.heap.size ≤ k
section
variable {w w' w'' : World} {B S : Nat} {ad ad' ad'' : List Nat} {vl vl' vl'' : Rl → Value} {s s' : St}
theorem Stp.refl (w : World) (B S : Nat) (ad : List Nat) (vl : Rl → Value) : Stp w B S ad vl w ad vl := ⟨Below.refl _ _, fun _ _ _ => rfl, fun _ h => .inl h⟩
theorem Stp.trans (h : Stp w B S ad vl w' ad' vl') (h2 : Stp w' B S ad' vl' w'' ad'' vl'') : Stp w B S ad vl w'' ad'' vl'' :=
  ⟨h.below.trans h2.below, fun k hk hn => (h2.ch k (Nat.lt_of_lt_of_le hk h.below.size) fun e => (h.fp k e).elim hn fun e => by omega).trans (h.ch k hk hn),
   fun k hk => (h2.fp k hk).elim (h.fp k) fun e => .inr (Nat.le_trans h.below.size e)⟩
theorem Stp.kp (h : Stp w B S ad vl w' ad' vl') {k : Nat} (hk : ¬ FP S ad vl k) : Kp w w' k := fun _ ho => (h.ch k (Array.getElem?_eq_some_iff.1 ho).1 hk).trans ho
theorem SAt.fpLo (h : SAt w B S ad vl s) {k : Nat} (hk : FP S ad vl k) : B ≤ k ∧ k < w.heap.size := by
  rcases hk with rfl | ⟨r, hr⟩ | hk
  · exact ⟨h.loS, h.lt⟩
  · exact (h.rows r).lt k hr
  · obtain ⟨c, hc, rfl⟩ := List.mem_iff_getElem.1 hk
    have e : ad[c] = ad.getD c 0 := by simp [hc]
    have hc2 : c < s.cls.length := by rw [← h.adl]; exact hc
    rw [e]
    exact ⟨h.loC c hc2, (Array.getElem?_eq_some_iff.1 (h.cl c hc2)).1⟩
theorem SAt.stp (h : SAt w B S ad vl s) (hch : Ch (FP S ad vl) w w') (hf : ∀ k, FP S ad' vl' k → FP S ad vl k ∨ w.heap.size ≤ k) : Stp w B S ad vl w' ad' vl' :=
  ⟨hch.below (fun _ hk => (h.fpLo hk).1) h.size, hch.block, hf⟩
theorem SAt.stpNew (h : SAt w B S ad vl s) (hb : Below w.heap.size w w') : Stp w B S ad vl w' ad vl := h.stp (ch_new hb _) fun _ h => .inl h
theorem SAt.stpRow (h : SAt w B S ad vl s) (r : Rl) {g n cap : Nat} (hv : vl r = .slice (some ⟨g, 0, none⟩) n cap) (j : Nat) (u : Value) : Stp w B S ad vl (w.setCell ⟨g, j, none⟩ u) ad vl :=
  h.stp ((ch_set w g j u).imp fun _ _ e => .inr (.inl ⟨r, by rw [hv, e]; rfl⟩)) fun _ h => .inl h
theorem SAt.stpNum (h : SAt w B S ad vl s) (k : Nat) (u : Value) : Stp w B S ad vl (w.setCell ⟨S, k, none⟩ u) ad vl :=
  h.stp ((ch_set w S k u).imp fun _ _ e => .inl e) fun _ h => .inl h
theorem SAt.memC (h : SAt w B S ad vl s) {c : Nat} (hc : c < s.cls.length) : ad.getD c 0 ∈ ad := by
  have hl : c < ad.length := by rw [h.adl]; exact hc
  have e : ad[c] = ad.getD c 0 := by simp [hl]
  rw [← e]; exact List.getElem_mem hl
theorem SAt.stpCl (h : SAt w B S ad vl s) {c : Nat} (hc : c < s.cls.length) (k : Nat) (u : Value) : Stp w B S ad vl (w.setCell ⟨ad.getD c 0, k, none⟩ u) ad vl :=
  h.stp ((ch_set w _ k u).imp fun _ _ e => .inr (.inr (e ▸ h.memC hc))) fun _ h => .inl h
theorem fp_upd (r : Rl) {v : Value} (hn : NewOr w (vl r) v) : ∀ k, FP S ad (updV vl r v) k → FP S ad vl k ∨ w.heap.size ≤ k := by
  rintro k (e | ⟨r', hr⟩ | e)
  · exact .inl (.inl e)
  · by_cases e : r' = r
    · subst e
      rw [updV_same] at hr
      exact (hn k hr).imp (fun h => .inr (.inl ⟨_, h⟩)) id
    · rw [updV_ne _ _ e] at hr
      exact .inl (.inr (.inl ⟨_, hr⟩))
  · exact .inl (.inr (.inr e))
theorem SAt.stpSl (h : SAt w B S ad vl s) (r : Rl) {v : Value} {w5 : World} (k : Nat) (hch : Ch (fun i => some i = (vl r).ownBlock) w w5) (hn : NewOr w (vl r) v) : Stp w B S ad vl (w5.setCell ⟨S, k, none⟩ v) ad (updV vl r v) :=
  h.stp ((hch.imp fun _ _ e => .inr (.inl ⟨r, e.symm⟩)).trans ((ch_set w5 S k v).imp fun _ _ e => .inl e)) (fp_upd r hn)
theorem SAt.stpWr (h : SAt w B S ad vl s) (x : Nat) {v : Value} {w5 : World} {gw n cap : Nat} (hv : vl .wt = .slice (some ⟨gw, 0, none⟩) n cap) (hch : Ch (fun i => some i = (vl (.wr x)).ownBlock) w w5) (hn : NewOr w (vl (.wr x)) v) : Stp w B S ad vl (w5.setCell ⟨gw, x, none⟩ v) ad (updV vl (.wr x) v) :=
  h.stp ((hch.imp fun _ _ e => .inr (.inl ⟨_, e.symm⟩)).trans ((ch_set w5 gw x v).imp fun _ _ e => .inr (.inl ⟨.wt, by rw [hv, e]; rfl⟩))) (fp_upd _ hn)
theorem newOr_up {v v' : Value} {wa : World} (hb : Below w.heap.size w wa) (h : NewOr wa v v') : NewOr w v v' := fun b hv => (h b hv).imp id fun e => Nat.le_trans hb.size e
/-- append to a literal's watches -/
theorem SAt.pushWr (h : SAt w B S ad vl s) (x c : Nat) {v : Value} {w5 : World} {gw n cap : Nat} {wa : World} (hb : Below w.heap.size w wa) (hx : x < s.watch.length) (hv : vl .wt = .slice (some ⟨gw, 0, none⟩) n cap) {Q : List Value} (hQ : cont s ad vl (.wr x) = Q) (hown : OwnG w5 B 96 v (Q ++ [pC ad c])) (hg : wa.grownBy w5 (vl (.wr x)).ownBlock) (hn : NewOr wa (vl (.wr x)) v) :
    SAt (w5.setCell ⟨gw, x, none⟩ v) B S ad (updV vl (.wr x) v) (pushW s x c) ∧ Stp w B S ad vl (w5.setCell ⟨gw, x, none⟩ v) ad (updV vl (.wr x) v) ∧ w5.cell? ⟨S, 3, none⟩ = some (vl .wt) ∧ w5.cell? ⟨gw, x, none⟩ = some (vl (.wr x)) ∧ w5.frozen? ⟨gw, x, none⟩ = false := by
  have hch : Ch (fun i => some i = (vl (.wr x)).ownBlock) w w5 := (ch_new hb _).trans (ch_grown hg)
  have hn' := newOr_up hb hn
  have hcx : cont (pushW s x c) ad (updV vl (.wr x) v) (.wr x) = cont s ad vl (.wr x) ++ [pC ad c] := by simp [cont, pushW, hx]
  have hc1 : ∀ r, r ≠ .wr x → r ≠ .wt → cont (pushW s x c) ad (updV vl (.wr x) v) r = cont s ad vl r := ?_
  have hc2 : cont (pushW s x c) ad (updV vl (.wr x) v) .wt = (cont s ad vl .wt).set x v := ?_
  · obtain ⟨h1, h2, h3⟩ := h.setWr x hv (pushW s x c) (by rw [hcx, hQ]; exact hown) hch hn' hc1 hc2 rfl rfl (fun _ _ => rfl)
    rw [hv] at h2
    exact ⟨h1, h.stpWr x hv hch hn', cell_of_row w5 S 3 _ _ (0, 0) h3, h2.cell (by simp [cont, hx]), h2.frozen x⟩
  · apply List.ext_getElem?
    intro i
    simp only [cont, pushW, List.length_set, List.getElem?_map, List.getElem?_set, List.length_map, List.length_range]
    by_cases hi : i < s.watch.length
    · by_cases e : x = i
      · subst e; simp [hx, updV]
      · have e2 : ¬ i = x := fun e2 => e e2.symm
        simp [hi, e, updV, e2]
    · have e : x ≠ i := by omega
      simp [hi, e]
  · intro r hr hr2
    cases r with
    | wr i =>
      have : x ≠ i := fun e => hr (by rw [e])
      simp [cont, pushW, this]
    | wt => exact absurd rfl hr2
    | pr => simp [cont, pushW, updV]
    | _ => rfl
/-- append to a row that a field of the solver holds -/
theorem SAt.pushSl (h : SAt w B S ad vl s) (r : Rl) (k : Nat) {u v : Value} {w5 wa : World} (hb : Below w.heap.size w wa) (s' : St) (hown : OwnG w5 B (ty r) v (cont s ad vl r ++ [u])) (hg : wa.grownBy w5 (vl r).ownBlock) (hn : NewOr wa (vl r) v)
    (hcr : cont s' ad (updV vl r v) r = cont s ad vl r ++ [u]) (hc : ∀ r', r' ≠ r → cont s' ad (updV vl r v) r' = cont s ad vl r') (hf : fieldsS s' (updV vl r v) = (fieldsS s vl).setIfInBounds k v)
    (hcl : s'.cls.length = s.cls.length) (hfc : ∀ c, c < s.cls.length → fieldsC s' (updV vl r v) c = fieldsC s vl c) :
    SAt (w5.setCell ⟨S, k, none⟩ v) B S ad (updV vl r v) s' ∧ Stp w B S ad vl (w5.setCell ⟨S, k, none⟩ v) ad (updV vl r v) ∧ w5.heap[S]? = some (.cells (fieldsS s vl) 91 (0, 0)) := by
  have hch : Ch (fun i => some i = (vl r).ownBlock) w w5 := (ch_new hb _).trans (ch_grown hg)
  have hn' := newOr_up hb hn
  obtain ⟨h1, h2⟩ := h.setSl r k s' (by rw [hcr]; exact hown) hch hn' hc hf hcl hfc
  exact ⟨h1, h.stpSl r k hch hn', h2⟩
end
/-- what the walk appends by: its element types -/
theorem eLit : Elem1 Try.prog 89 94 8 := elem1_mk (z := .int .i64 0) Try.underlying89 (by kernel_rfl) (by omega) rfl
theorem eCls : Elem1 Try.prog 86 96 8 := elem1_mk (z := .pointer none) Try.underlying86 (by kernel_rfl) (by omega) rfl
theorem eInt : Elem1 Try.prog 37 3 8 := elem1_mk (z := .int .i64 0) Try.underlying37 (by kernel_rfl) (by omega) rfl
theorem eRows : Elem1 Try.prog 36 37 24 := elem1_mk (z := .slice none 0 0) Try.underlying36 (by kernel_rfl) (by omega) rfl
/-- the one cell of a row that was just made -/
theorem one_new (w : World) (u : Value) (t : TypeId) : (w.alloc (.cells #[u] t)).cell? ⟨w.heap.size, 0, none⟩ = some u := cell_of_row _ _ 0 _ _ (0, 0) (heap_alloc_new w _)
end Go.Proofs.Ytcebafeaikipmaa.S15
