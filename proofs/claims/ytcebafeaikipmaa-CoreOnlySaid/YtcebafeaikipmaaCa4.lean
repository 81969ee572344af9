/- The question of a deal: what the reference computes. / The document's example of a deal, and that it is as the document says. / The document's example is as the document says. / .. -/
import Derived.Lib.QuietBelow
import Derived.Deep.RegionHeld3
import Derived.Test.YtcebafeaikipmaaCa3
namespace Go.Proofs.Ytcebafeaikipmaa
open Go.RowKit

abbrev inQ (w : World) (B g : Nat) (own : Option Nat) : Nat → Prop := fun b => B ≤ b ∧ b < w.heap.size ∧ b ≠ g ∧ some b ≠ own
/-- The reference's question, block g: its clauses are cs; all of it lies from block B on; own: the block of its row. -/
def QAt (w : World) (B g n0 : Nat) (own : Option Nat) (cs : List (List Int)) : Prop :=
  ∃ v xs, w.heap[g]? = some (.cells #[.int .i64 (n0 : Int), v] 61 (0, 0)) ∧ w.ownsRow B 37 1 v cs.length xs ∧ v.ownBlock = own ∧ own ≠ some g ∧
    ∀ i (h : i < cs.length) u, xs[i]? = some u → RInts w (inQ w B g own) u cs[i]
theorem QAt.lt {w : World} {B g n0 : Nat} {own : Option Nat} {cs : List (List Int)} (h : QAt w B g n0 own cs) : g < w.heap.size ∧ ∀ b, own = some b → B ≤ b ∧ b < w.heap.size ∧ b ≠ g := by
  obtain ⟨v, xs, h1, h2, rfl, h3, _⟩ := h
  exact ⟨(Array.getElem?_eq_some_iff.1 h1).1, fun b hb => by have := h2.lt b hb; exact ⟨this.1, this.2, fun e => h3 (by rw [hb, e])⟩⟩
theorem QAt.keep {w w' : World} {B g n0 : Nat} {own : Option Nat} {cs : List (List Int)} (h : QAt w B g n0 own cs) (hb : Below w.heap.size w w') : QAt w' B g n0 own cs := by
  have hlt := h.lt
  obtain ⟨v, xs, h1, h2, h3, h3', h4⟩ := h
  have hg : w.grownBy w' none := grown_none_of_below hb none
  refine ⟨v, xs, (hb.block g hlt.1).trans h1, h2.kept hg (by cases hv : v.ownBlock with | none => exact .inl rfl | some b => exact .inr (by simp)), h3, h3', fun i hi u hu => ?_⟩
  exact RInts.stable _ _ _ _ _ _ (h4 i hi u hu) (fun b hb' => hb.block b hb'.2.1) fun b hb' => ⟨hb'.1, Nat.lt_of_lt_of_le hb'.2.1 hb.size, hb'.2.2⟩
/-- Behind the append and the store. -/
theorem QAt.push {w w3 : World} {B g n0 : Nat} {own : Option Nat} {cs : List (List Int)} {v v1 l : Value} {c : List Int} {xs : List Value} {o : Obj} (hBg : B ≤ g) (h : QAt w B g n0 own cs)
    (h1 : w.heap[g]? = some (.cells #[.int .i64 (n0 : Int), v] 61 (0, 0))) (hv : v.ownBlock = own) (hxl : xs.length = cs.length) (h4 : ∀ i (h : i < cs.length) u, xs[i]? = some u → RInts w (inQ w B g own) u cs[i])
    (hl : RInts w (inQ w B g own) l c) (hown1 : w3.ownsRow B 37 1 v1 (cs.length + 1) (xs ++ [l])) (hg1 : (w.alloc o).grownBy w3 v.ownBlock) (hat1 : v1.ownBlock = v.ownBlock ∨ v1.ownBlock = some (w.alloc o).heap.size) :
    QAt (w3.setCell ⟨g, 1, none⟩ v1) B g n0 v1.ownBlock (cs ++ [c]) ∧ Below B w (w3.setCell ⟨g, 1, none⟩ v1) ∧ w.heap.size < (w3.setCell ⟨g, 1, none⟩ v1).heap.size := by
  have hlt := h.lt
  have hgw := hlt.1
  have hBw : B ≤ w.heap.size := by omega
  have hgb := (hg1.block g (by simp; omega) (by rw [hv]; exact fun e => (hlt.2 g e.symm).2.2 rfl)).trans ((Below.heap_alloc w o g hgw).trans h1)
  have hsz3 : w.heap.size + 1 ≤ w3.heap.size := by have := hg1.size; simpa using this
  have hag : Ag (inQ w B g own) w (w3.setCell ⟨g, 1, none⟩ v1) := fun b hb =>
    (Below.heap_setCell _ _ _ _ (fun e => hb.2.2.1 e)).trans ((hg1.block b (by simp; omega) (by rw [hv]; exact hb.2.2.2)).trans (Below.heap_alloc w _ b hb.2.1))
  have hgr : w3.grownBy (w3.setCell ⟨g, 1, none⟩ v1) (some g) := ⟨rfl, rfl, rfl, by simp, fun k _ hk => Below.heap_setCell _ _ _ _ (fun e => hk (by simp [e]))⟩
  have howns : v1.ownBlock = own ∨ ∃ b, v1.ownBlock = some b ∧ w.heap.size ≤ b := by
    rcases hat1 with h | h
    · exact .inl (h.trans hv)
    · exact .inr ⟨_, h, by simp⟩
  have hv1g : v1.ownBlock ≠ some g := by
    rcases howns with h | ⟨b, h, hb⟩
    · rw [h]; exact fun e => (hlt.2 g e).2.2 rfl
    · rw [h]; intro e; simp at e; omega
  have hinner : ∀ b, inQ w B g own b → inQ (w3.setCell ⟨g, 1, none⟩ v1) B g v1.ownBlock b := fun b hb => ⟨hb.1, by simp; omega, hb.2.2.1, by
    rcases howns with h | ⟨b', h, hb'⟩
    · rw [h]; exact hb.2.2.2
    · rw [h]; intro e; simp at e; omega⟩
  refine ⟨⟨v1, xs ++ [l], ?_, ?_, rfl, hv1g, fun i hi u hu => ?_⟩, ?_, by simp; omega⟩
  · exact heap_setCell_same w3 g 1 _ _ v1 hgb
  · rw [List.length_append]
    exact hown1.kept hgr (.inr hv1g)
  · rcases Nat.lt_or_ge i cs.length with h | h
    · rw [List.getElem?_append_left (by omega)] at hu
      rw [List.getElem_append_left h]
      exact RInts.stable _ _ _ _ _ _ (h4 i h u hu) hag hinner
    · have hie : i = cs.length := by simp at hi; omega
      subst hie
      rw [List.getElem?_append_right (by omega), hxl] at hu
      simp at hu
      subst hu
      simp only [List.getElem_append_right (Nat.le_refl _), Nat.sub_self, List.getElem_cons_zero]
      exact RInts.stable _ _ _ _ _ _ hl hag hinner
  · refine (((Below.refl B w).alloc hBw _).grown hg1 (by simp; omega) (fun b hb => ?_)).setCell (p := ⟨g, 1, none⟩) hBg _
    exact (hlt.2 b (by rw [← hv]; exact hb)).1
/-- The state, opened for a walk. -/
theorem QAt.open_ {w : World} {B g n0 : Nat} {own : Option Nat} {cs : List (List Int)} (h : QAt w B g n0 own cs) :
    ∃ A k xs, w.heap[g]? = some (.cells #[.int .i64 (n0 : Int), .slice A cs.length k] 61 (0, 0)) ∧ w.cell? ⟨g, 0, none⟩ = some (.int .i64 (n0 : Int)) ∧ w.cell? ⟨g, 1, none⟩ = some (.slice A cs.length k) ∧
      w.ownsRow B 37 1 (.slice A cs.length k) cs.length xs ∧ (Value.slice A cs.length k).ownBlock = own ∧ xs.length = cs.length ∧ (∀ i (h : i < cs.length) u, xs[i]? = some u → RInts w (inQ w B g own) u cs[i]) ∧
      RIntss w (fun b => B ≤ b ∧ b < w.heap.size) (.slice A cs.length k) cs := by
  obtain ⟨v, xs, h1, h2, h3, h3', h4⟩ := h
  obtain ⟨A, k, rfl⟩ := own_shape h2
  exact ⟨A, k, xs, h1, by rw [cell_of_row _ _ 0 _ _ _ h1]; rfl, by rw [cell_of_row _ _ 1 _ _ _ h1]; rfl, h2, h3, by simpa using h2.1, h4,
    reads_of_own h2 rfl (fun b hb => h2.lt b hb) fun k hk u hu => RInts.stable.sub (h4 k hk u hu) fun b hb => ⟨hb.1, hb.2.1⟩⟩
def EncRefPost (items : List ItemD) (wss : List (List (List Int))) (r : Int) (w : World) (e : Ending) (w' : World) : Prop :=
  ∃ s, e = .returned (.tuple #[.agg #[.int .i64 (items.length : Int), s], .bool (decide ((allCls items wss r).length ≤ 16384))]) ∧ RIntss w' (Lt w'.heap.size) s (allCls items wss r) ∧ Below w.heap.size w w'
theorem pairsTo_len (items : List ItemD) : ∀ m, (pairsTo items m).length ≤ m * items.length
  | 0 => by simp [pairsTo]
  | m + 1 => by
    have h1 := pairsTo_len items m
    have h2 : (pairsAt items m items.length).length ≤ items.length := by
      unfold pairsAt; rw [List.length_map]; exact Nat.le_trans (List.length_filter_le _ _) (by simp)
    rw [pairsTo_succ, List.length_append, Nat.succ_mul]; omega
theorem pairsAt_len (items : List ItemD) (i m : Nat) : (pairsAt items i m).length ≤ m := by
  unfold pairsAt; rw [List.length_map]; exact Nat.le_trans (List.length_filter_le _ _) (by simp)

theorem QAt.start (W : World) (x : Int) (n0 : Nat) {a b : Nat} (ha : a = W.heap.size) (hb : b = W.heap.size + 1) :
    QAt (((W.alloc (.cells #[.int .i64 x] 3)).alloc (.cells #[.slice (some ⟨a, 0, none⟩) 1 1] 37)).alloc (.cells #[.int .i64 (n0 : Int), .slice (some ⟨b, 0, none⟩) 1 1] 61)) W.heap.size (W.heap.size + 1 + 1) n0 (some (W.heap.size + 1)) [[x]] := by
  subst ha hb
  have h2 := World.ownsRow_lit (base := W.heap.size) (e := 37) (size := 1) (W.alloc (.cells #[.int .i64 x] 3)) #[.slice (some ⟨W.heap.size, 0, none⟩) 1 1] 1 (by simp) (by unfold maxLen; omega) (by simp)
  simp only [World.size_alloc] at h2
  have h3 := heap_alloc_new ((W.alloc (.cells #[.int .i64 x] 3)).alloc (.cells #[.slice (some ⟨W.heap.size, 0, none⟩) 1 1] 37)) (.cells #[.int .i64 (n0 : Int), .slice (some ⟨W.heap.size + 1, 0, none⟩) 1 1] 61)
  simp only [World.size_alloc] at h3
  refine ⟨_, _, h3, h2.alloc _, rfl, by simp, fun i hi u hu => ?_⟩
  have h0 : i = 0 := by simp at hi; omega
  subst h0
  simp at hu
  subst hu
  refine RInts.stable _ _ _ _ _ _ (lit_ints W [x] (S := fun b => b = W.heap.size) rfl rfl rfl (by simp)) (fun b hb => ?_) (fun b hb => ?_)
  · subst hb
    exact (Below.heap_alloc _ _ _ (by simp; omega)).trans (Below.heap_alloc _ _ _ (by simp))
  · subst hb
    exact ⟨Nat.le_refl _, by simp; omega, by omega, by simp⟩
def EncEnv (w wr : World) (v0 v1 : Value) (_r : Int) : Prop :=
  wr.cell? ⟨w.heap.size, 0, none⟩ = some v0 ∧ wr.cell? ⟨w.heap.size, 1, none⟩ = some v1 ∧ wr.cell? ⟨w.heap.size + 1, 0, none⟩ = some (.int .i64 0) ∧ wr.cell? ⟨w.heap.size + 1, 1, none⟩ = some (.slice none 0 0) ∧
    wr.frozen? ⟨w.heap.size + 1, 0, none⟩ = false ∧ wr.frozen? ⟨w.heap.size + 1, 1, none⟩ = false ∧ Below w.heap.size w wr
theorem EncEnv.keep {w wr wr' : World} {v0 v1 : Value} {r : Int} (h : EncEnv w wr v0 v1 r) (hb : Below (w.heap.size + 1 + 1) wr wr') : EncEnv w wr' v0 v1 r := by
  obtain ⟨h0, h1, h2, h3, h4, h5, h6⟩ := h
  exact ⟨(hb.cell (p := ⟨w.heap.size, 0, none⟩) (by simp; omega)).trans h0, (hb.cell (p := ⟨w.heap.size, 1, none⟩) (by simp; omega)).trans h1, (hb.cell (p := ⟨w.heap.size + 1, 0, none⟩) (by simp)).trans h2,
    (hb.cell (p := ⟨w.heap.size + 1, 1, none⟩) (by simp)).trans h3, (hb.frozen (p := ⟨w.heap.size + 1, 0, none⟩) (by simp)).trans h4, (hb.frozen (p := ⟨w.heap.size + 1, 1, none⟩) (by simp)).trans h5, h6.trans (hb.mono (by omega))⟩
theorem EncEnv.start (w : World) (v0 v1 : Value) (r : Int) : EncEnv w ((w.alloc (.cells #[v0, v1, .int .i64 r] 25)).alloc (.cells #[.int .i64 0, .slice none 0 0] 61)) v0 v1 r := by
  refine ⟨?_, ?_, ?_, ?_, ?_, ?_, (below_alloc _ _).alloc (by simp) _⟩ <;> simp [go_sem]
theorem EncEnv.drewN {w wr : World} {v0 v1 : Value} {r : Int} (h : EncEnv w wr v0 v1 r) (n : Nat) : EncEnv w (wr.drewN n) v0 v1 r := ⟨h.1, h.2.1, h.2.2.1, h.2.2.2.1, h.2.2.2.2.1, h.2.2.2.2.2.1, below_drewN h.2.2.2.2.2.2 n⟩
theorem QAt.drewN {w : World} {B g n0 : Nat} {own : Option Nat} {cs : List (List Int)} (h : QAt w B g n0 own cs) (n : Nat) : QAt (w.drewN n) B g n0 own cs := by
  obtain ⟨v, xs, h1, h2, h3, h3', h4⟩ := h
  exact ⟨v, xs, h1, h2, h3, h3', fun i hi u hu => RInts.stable _ _ _ _ _ _ (h4 i hi u hu) (fun _ _ => rfl) fun _ h => h⟩
abbrev qB (w : World) : Nat := w.heap.size + 1 + 1
abbrev qG (w : World) : Nat := w.heap.size + 1 + 1 + 1 + 1

end Go.Proofs.Ytcebafeaikipmaa

namespace Go.Proofs.Ytcebafeaikipmaa
open Go.RowKit

def bG : ByteArray := ⟨#[103]⟩
def bA : ByteArray := ⟨#[97]⟩
def bB : ByteArray := ⟨#[98]⟩
def bJar : ByteArray := ⟨#[106, 97, 114]⟩
def b1 : ByteArray := ⟨#[49]⟩
def b2 : ByteArray := ⟨#[50]⟩
def exItems : List ItemD := [((bG, bA, bJar, ⟨#[]⟩), b1), ((bG, bB, bJar, ⟨#[]⟩), b1), ((bG, bB, bJar, ⟨#[]⟩), b2)]
def exWants : List (List (List Int)) := [[[1, 2]], [], []]
def DealPost (w : World) (e : Ending) (w' : World) : Prop :=
  ∃ s0 s1, e = .returned (.agg #[s0, s1, .int .i64 0]) ∧ RItems w' (Lt w'.heap.size) s0 exItems ∧ RIntsss w' (Lt w'.heap.size) s1 exWants ∧ Below w.heap.size w w'
def exCells : List Value := exItems.flatMap itemCells
theorem exCells_at (k : Nat) (hk : k < exItems.length) (j : Nat) (u : Value) (hu : (itemCells exItems[k])[j]? = some u) : exCells[0 + k * 5 + j]? = some u := by
  have h5 : (itemCells exItems[k]).length = 5 := rfl
  have hj : j < 5 := by have := (List.getElem?_eq_some_iff.1 hu).1; omega
  match k, hk, hj with
  | 0, _, hj => match j, hj with
    | 0, _ => exact hu
    | 1, _ => exact hu
    | 2, _ => exact hu
    | 3, _ => exact hu
    | 4, _ => exact hu
  | 1, _, hj => match j, hj with
    | 0, _ => exact hu
    | 1, _ => exact hu
    | 2, _ => exact hu
    | 3, _ => exact hu
    | 4, _ => exact hu
  | 2, _, hj => match j, hj with
    | 0, _ => exact hu
    | 1, _ => exact hu
    | 2, _ => exact hu
    | 3, _ => exact hu
    | 4, _ => exact hu
  | k + 3, hk, _ => exact absurd hk (by simp [exItems])
theorem exReads {W : World} {b5 b6 b4 b7 : Nat} {f4 f5 f6 f7 : Nat × Nat} (h4 : W.heap[b4]? = some (.cells exCells.toArray 35 f4)) (h5 : W.heap[b5]? = some (.cells #[.int .i64 1, .int .i64 2] 3 f5)) (h6 : W.heap[b6]? = some (.cells #[.slice (some ⟨b5, 0, none⟩) 2 2] 37 f6))
    (h7 : W.heap[b7]? = some (.cells #[.slice (some ⟨b6, 0, none⟩) 1 1, .slice none 0 0, .slice none 0 0] 36 f7)) :
    RItems W (Lt W.heap.size) (.slice (some ⟨b4, 0, none⟩) 3 3) exItems ∧ RIntsss W (Lt W.heap.size) (.slice (some ⟨b7, 0, none⟩) 3 3) exWants := by
  have l4 := (Array.getElem?_eq_some_iff.1 h4).1
  have l5 := (Array.getElem?_eq_some_iff.1 h5).1
  have l6 := (Array.getElem?_eq_some_iff.1 h6).1
  have l7 := (Array.getElem?_eq_some_iff.1 h7).1
  have r5 : RInts W (Lt W.heap.size) (.slice (some ⟨b5, 0, none⟩) 2 2) [1, 2] := by
    refine ⟨_, 2, rfl, Nat.le_refl _, by unfold maxLen; omega, fun _ => ⟨b5, 0, rfl, l5, fun k hk => ?_⟩⟩
    match k, hk with
    | 0, _ => exact ⟨_, (cell_of_row _ _ 0 _ _ _ h5).trans rfl, rfl⟩
    | 1, _ => exact ⟨_, (cell_of_row _ _ 1 _ _ _ h5).trans rfl, rfl⟩
  have r6 : RIntss W (Lt W.heap.size) (.slice (some ⟨b6, 0, none⟩) 1 1) [[1, 2]] := by
    refine ⟨_, 1, rfl, Nat.le_refl _, by unfold maxLen; omega, fun _ => ⟨b6, 0, rfl, l6, fun k hk => ?_⟩⟩
    match k, hk with
    | 0, _ => exact ⟨_, (cell_of_row _ _ 0 _ _ _ h6).trans rfl, r5⟩
  refine ⟨⟨_, 3, rfl, Nat.le_refl _, by unfold maxLen; omega, fun _ => ⟨b4, 0, rfl, l4, fun k hk j u hu => ?_⟩⟩, ⟨_, 3, rfl, Nat.le_refl _, by unfold maxLen; omega, fun _ => ⟨b7, 0, rfl, l7, fun k hk => ?_⟩⟩⟩
  · rw [cell_of_row _ _ _ _ _ _ h4]
    simpa using exCells_at k hk j u hu
  · match k, hk with
    | 0, _ => exact ⟨_, (cell_of_row _ _ 0 _ _ _ h7).trans rfl, r6⟩
    | 1, _ => exact ⟨_, (cell_of_row _ _ 1 _ _ _ h7).trans rfl, RSl.nil_ _ _ _⟩
    | 2, _ => exact ⟨_, (cell_of_row _ _ 2 _ _ _ h7).trans rfl, RSl.nil_ _ _ _⟩
end Go.Proofs.Ytcebafeaikipmaa

namespace Go.Proofs.Ytcebafeaikipmaa
open Go.RowKit

def exCls : List (List Int) := [[1], [-1, 2, 3], [-2, -3]]
theorem encR_ex : encR exItems exWants 0 = (3, exCls, 0) := by decide +kernel
theorem right_ex1 : rightB exItems exWants 0 [0, 1, 2] = false := by decide +kernel
theorem right_ex2 : rightB exItems exWants 0 [0, 1] = true := by decide +kernel
theorem may_ex : mayN exItems.length 0 exWants = 0 := by decide +kernel
theorem light_ex : lightW exWants := by
  intro ws hws
  simp only [exWants, List.mem_cons, List.not_mem_nil, or_false] at hws
  rcases hws with rfl | rfl | rfl <;> simp
theorem isMet_ex : IsMet 3 exWants [true, true, true] 0 [true, true, true] := by
  have h0 : Rch exWants [true, true, true] 0 0 := .root rfl
  have h1 : Rch exWants [true, true, true] 0 1 := .step (w := [1, 2]) h0 (by decide) (by simp [exWants]) (by simp) rfl
  have h2 : Rch exWants [true, true, true] 0 2 := .step (w := [1, 2]) h0 (by decide) (by simp [exWants]) (by simp) rfl
  refine ⟨rfl, fun x hx => ?_⟩
  match x, hx with
  | 0, _ => exact ⟨fun _ => h0, fun _ => rfl⟩
  | 1, _ => exact ⟨fun _ => h1, fun _ => rfl⟩
  | 2, _ => exact ⟨fun _ => h2, fun _ => rfl⟩
theorem taken_ex {l : List Int} (h : TakenIs exItems.length exWants 0 [true, true, true] l) : l = [0, 1, 2] := by
  obtain ⟨met, hm, rfl⟩ := h.1 may_ex
  rw [hm.unique isMet_ex]; rfl
theorem lit_bools (W : World) (l : List Bool) {S : Nat → Prop} {b n : Nat} (hb : b = W.heap.size) (hnl : n = l.length) (hS : S b) (hn : n ≤ 1000000) : RBools (W.alloc (.cells (l.map Value.bool).toArray 4)) S (.slice (some ⟨b, 0, none⟩) n n) l := by
  subst hb; subst hnl
  have := World.ownsRow_lit (base := W.heap.size) (e := 4) (size := 1) W (l.map Value.bool).toArray l.length (Nat.le_refl _) (by unfold maxLen; omega) (by simp)
  exact bools_of_own this fun g hg => by simp [Value.ownBlock] at hg; exact hg ▸ hS

end Go.Proofs.Ytcebafeaikipmaa

namespace Go.Proofs.Ytcebafeaikipmaa
set_option maxRecDepth 100000
open Go.RowKit Go.ChangeShapes Go.WideShapes Go.ChangeAt Go.Deep Go.Joins

theorem trod_str {P : Program} {H : Type} {enc : TypeId × Value → H} {w : World} {fuel : Nat} {t : TypeId} {cs : List Value} {o : Option (DataW H × List MemPlace)} {x : DataW H × List MemPlace} (ht : P.underlying t = some .string)
    (h : DataW.trod enc P w 0 (fun _ => true) true fuel t cs = o) (ho : o = some x) : ∃ s : ByteArray, cs = [.string s] := by
  subst ho
  obtain ⟨s, h1, _⟩ := DataW.trod_string ht h
  exact ⟨s, h1⟩
theorem trod_key {H : Type} {enc : TypeId × Value → H} {w : World} {fuel : Nat} {cs : List Value} {x : DataW H × List MemPlace}
    (h : DataW.trod enc Try.prog w 0 (fun _ => true) true fuel 33 cs = some x) : ∃ k : KeyD, cs = keyCells k := by
  obtain ⟨xs, n, _, _, hlen, hxl, hf⟩ := DataW.trod_struct Try.underlying33 h
  have hc : cs.length = 4 := hlen.trans (by kernel_rfl)
  have hx4 : xs.length = 4 := hxl
  have g0 := hf 0 _ rfl
  have g1 := hf 1 _ rfl
  have g2 := hf 2 _ rfl
  have g3 := hf 3 _ rfl
  have c1 : Try.prog.cellsOf 9 = 1 := by kernel_rfl
  match cs, hc, xs, hx4 with
  | [a, b, c, d], _, [y0, y1, y2, y3], _ =>
    simp [c1] at g0 g1 g2 g3
    obtain ⟨s0, e0⟩ := trod_str Try.underlying9 g0 rfl
    obtain ⟨s1, e1⟩ := trod_str Try.underlying9 g1 rfl
    obtain ⟨s2, e2⟩ := trod_str Try.underlying9 g2 rfl
    obtain ⟨s3, e3⟩ := trod_str Try.underlying9 g3 rfl
    simp at e0 e1 e2 e3
    exact ⟨(s0, s1, s2, s3), by simp [keyCells, e0, e1, e2, e3]⟩
theorem trod_item {H : Type} {enc : TypeId × Value → H} {w : World} {fuel : Nat} {cs : List Value} {x : DataW H × List MemPlace}
    (h : DataW.trod enc Try.prog w 0 (fun _ => true) true fuel 35 cs = some x) : ∃ k : ItemD, cs = itemCells k := by
  obtain ⟨xs, n, _, _, hlen, hxl, hf⟩ := DataW.trod_struct Try.underlying35 h
  have hc : cs.length = 5 := hlen.trans (by kernel_rfl)
  have hx2 : xs.length = 2 := hxl
  have g0 := hf 0 _ rfl
  have g1 := hf 1 _ rfl
  have c1 : Try.prog.cellsOf 9 = 1 := by kernel_rfl
  have c4 : Try.prog.cellsOf 33 = 4 := by kernel_rfl
  match cs, hc, xs, hx2 with
  | [a, b, c, d, e], _, [y0, y1], _ =>
    simp [c1, c4] at g0 g1
    obtain ⟨k, ek⟩ := trod_key g0
    obtain ⟨s, es⟩ := trod_str Try.underlying9 g1 rfl
    simp at es
    refine ⟨(k, s), ?_⟩
    show [a, b, c, d] ++ [e] = keyCells k ++ [.string s]
    rw [ek, es]
theorem cells_at {w : World} {base : Nat} {a : Addr} {n : Nat} {cs : List Value} (h : w.cells? base a n = some cs) : cs.length = n ∧ ∀ j u, cs[j]? = some u → w.cell? (a.add j) = some u := by
  obtain ⟨_, hl, hat⟩ := World.cells?_some h
  refine ⟨hl, fun j u hu => ?_⟩
  have hj := (List.getElem?_eq_some_iff.1 hu).1
  rw [hat j (by omega), hu]
theorem reads1_items : Reads1 Try.prog 22 RItems := fun {H enc w fuel cs x} h hp => by
  rcases open_slice Try.underlying22 h with ⟨rfl, rfl⟩ | ⟨a, len, cap, m, n, D, Pl, rfl, _, hlc, hcm, hm, rfl, hat⟩
  · exact ⟨_, [], rfl, ⟨none, 0, rfl, Nat.le_refl _, Nat.zero_le _, fun h => absurd h (by simp)⟩⟩
  · simp only [if_true] at hm
    subst hm
    have c5 : Try.prog.cellsOf 35 = 5 := by kernel_rfl
    rw [c5] at hat
    obtain ⟨l, hl, hat'⟩ := choose_list (n := len) (p := fun i (it : ItemD) => ∀ j u, (itemCells it)[j]? = some u → w.cell? ((a.add (i * 5)).add j) = some u) (fun i hi => by
      obtain ⟨cs', hcs, htr⟩ := hat i (by omega)
      obtain ⟨it, rfl⟩ := trod_item htr
      exact ⟨it, (cells_at hcs).2⟩)
    refine ⟨_, l, rfl, some a, m, by rw [hl], by omega, hcm, fun hpos => ?_⟩
    have h00 := hat' 0 hpos 0 _ rfl
    have hsp := spot_none (w := w) (a := a) (by simpa [Addr.add] using h00)
    refine ⟨a.block, a.off, by rw [← hsp], ?_, fun k hk j u hu => ?_⟩
    · have := World.block_lt_of_cell? w _ h00
      simpa [Lt, block_of_add] using this
    · have := hat' k hk j u hu
      rw [hsp, add_none, add_none] at this
      exact this
theorem reads1_intsW : Reads1 Try.prog 37 (RSl RIntW) := reads1_slice Try.underlying37 (by kernel_rfl) (reads1_int Try.underlying3)
theorem RSl.weak {w : World} {S : Nat → Prop} {v : Value} {l : List Int} (h : RSl RIntW w S v l) : RInts w S v l := h.map_ fun _ _ _ h => h.1
theorem reads1_map {α : Type} {P : Program} {t : TypeId} {R R' : Rd α} (h : Reads1 P t R) (hm : ∀ w S v x, R w S v x → R' w S v x) : Reads1 P t R' := fun h1 h2 => by
  obtain ⟨v, d, e, hd⟩ := h h1 h2
  exact ⟨v, d, e, hm _ _ _ _ hd⟩
theorem reads1_ints : Reads1 Try.prog 37 RInts := reads1_map reads1_intsW fun _ _ _ _ h => h.weak
theorem reads1_intss : Reads1 Try.prog 36 RIntss := reads1_slice Try.underlying36 (by kernel_rfl) reads1_ints
theorem reads1_intsss : Reads1 Try.prog 23 RIntsss := reads1_slice Try.underlying23 (by kernel_rfl) reads1_intss
theorem reads1_bools : Reads1 Try.prog 67 RBools := reads1_slice Try.underlying67 (by kernel_rfl) (reads1_bool Try.underlying4)
theorem arg_deal {w : World} {v : Value} (h : Arg Try.prog w 25 v) : ∃ s0 s1 r items wss, v = .agg #[s0, s1, .int .i64 r] ∧ RItems w (Lt w.heap.size) s0 items ∧ RIntsss w (Lt w.heap.size) s1 wss ∧ -9223372036854775808 ≤ r ∧ r ≤ 9223372036854775807 := by
  obtain ⟨H, enc, base, d, p, hv, ht, hlt⟩ := h
  obtain ⟨c0, c1, c2, y0, y1, y2, m, rfl, _, hp, hy0, hy1, hy2⟩ := open_agg3 Try.underlying25 (by kernel_rfl) (by kernel_rfl) hv ht
  obtain ⟨u0, items, e0, r0⟩ := reads1_items hy0 (fun q hq => hlt q (by rw [hp]; simp [hq]))
  obtain ⟨u1, wss, e1, r1⟩ := reads1_intsss hy1 (fun q hq => hlt q (by rw [hp]; simp [hq]))
  obtain ⟨u2, r, e2, r2⟩ := reads1_int Try.underlying3 hy2 (fun q hq => hlt q (by rw [hp]; simp [hq]))
  simp at e0 e1 e2
  subst e0 e1 e2
  obtain ⟨rfl, h1, h2⟩ := r2
  exact ⟨_, _, r, items, wss, rfl, r0, r1, h1, h2⟩
theorem arg_slice {α : Type} {w : World} {t e : TypeId} {v : Value} {R : Rd (List α)} (h : Arg Try.prog w t v) (ht : Try.prog.underlying t = some (.slice e)) (hR : Reads1 Try.prog t R) : ∃ l, R w (Lt w.heap.size) v l := by
  refine h.read1 hR fun cs e => ?_
  subst e
  obtain ⟨H, enc, base, d, p, hv, _⟩ := h
  obtain ⟨a0, len, cap, e⟩ := okWide_slice ht hv
  cases e
end Go.Proofs.Ytcebafeaikipmaa

namespace Go.Proofs.Ytcebafeaikipmaa
open Go.RowKit Go.Sort

theorem mayN_cases (n0 : Nat) (r : Int) (wss : List (List (List Int))) : mayN n0 r wss = 0 ∨ mayN n0 r wss = 1 ∨ mayN n0 r wss = 2 := by
  unfold mayN; (repeat' split) <;> omega
theorem errs_cases (n0 : Nat) (r : Int) (wss : List (List (List Int))) : (errOf (mayN n0 r wss) = 0 ∧ ((mayN n0 r wss : Nat) : Int) = 0) ∨ (errOf (mayN n0 r wss) = 1 ∧ ((mayN n0 r wss : Nat) : Int) = 1) ∨ (errOf (mayN n0 r wss) = 2 ∧ ((mayN n0 r wss : Nat) : Int) = 2) := by
  rcases mayN_cases n0 r wss with h | h | h <;> simp [h, errOf]
theorem RArr.shape {α : Type} {n : Nat} {P : RdV α} {w : World} {S : Nat → Prop} {v : Value} {l : List α} (h : RArr n P w S v l) : ∃ A c, v = .slice A l.length c := by
  obtain ⟨A, c, hv, _⟩ := h; exact ⟨A, c, hv⟩
theorem RSl.shape {α : Type} {R : Rd α} {w : World} {S : Nat → Prop} {v : Value} {l : List α} (h : RSl R w S v l) : ∃ A c, v = .slice A l.length c := by
  obtain ⟨A, c, hv, _⟩ := h; exact ⟨A, c, hv⟩

end Go.Proofs.Ytcebafeaikipmaa

namespace Go.Proofs.Ytcebafeaikipmaa
open Go.RowKit Go.Sort

theorem lightB_n0 {n0 : Nat} {wss : List (List (List Int))} (h : lightB n0 wss = true) : n0 ≤ 40 := by simp [lightB] at h; omega
theorem light_len {items : List ItemD} {wss : List (List (List Int))} {r : Int} (h : lightB items.length wss = true) (hm : mayN items.length r wss = 0) : (allCls items wss r).length ≤ 16384 := by
  have h1 := wcls_len (lightW_of h) 0
  have h2 := pairsTo_len items items.length
  have h3 := lightB_n0 h
  have h4 := (mayN_zero hm).2.2.1
  have h5 : items.length * items.length ≤ 40 * 40 := Nat.mul_le_mul h3 h3
  simp only [allCls, headCls, List.length_append, List.length_cons]
  omega
theorem light_may {n0 : Nat} {r : Int} {wss : List (List (List Int))} (h : lightB n0 wss = true) (hm : mayN n0 r wss ≠ 0) : mayN n0 r wss = 1 := by
  have h3 := lightB_n0 h
  unfold mayN at *
  rw [if_neg (by omega)] at *
  split
  · rfl
  · rename_i h1
    rw [if_neg h1] at hm
    split
    · rfl
    · rename_i h2; simp [h2] at hm

end Go.Proofs.Ytcebafeaikipmaa

namespace Go.Proofs.Ytcebafeaikipmaa
open Go.RowKit Go.Sort

theorem fit2 {P : Program} {f : FuncId} {a v0 : Value} {w : World} {post : Ending → World → Prop} (h : Calls P f #[a, v0] w post) : ∀ v, v = v0 → Calls P f #[a, v] w post := by rintro _ rfl; exact h

end Go.Proofs.Ytcebafeaikipmaa

namespace Go.Proofs.Ytcebafeaikipmaa
open Go.RowKit

theorem lit_pos {t : List Bool} {x : Int} (h : 0 ≤ x) : litTrue t (x + 1) = tT t x.toNat := by
  unfold litTrue tT
  rw [if_pos (by omega), show (x + 1).toNat - 1 = x.toNat by omega]
theorem lit_neg {t : List Bool} {i : Nat} : litTrue t (-((i : Int) + 1)) = !tT t i := by
  unfold litTrue tT
  rw [if_neg (by omega), if_pos (by omega), show (-(-((i : Int) + 1))).toNat - 1 = i by omega]
/-- What a deal asks of truths. -/
structure Meant (items : List ItemD) (wss : List (List (List Int))) (r : Nat) (t : List Bool) : Prop where
  root : tT t r = true
  wants : ∀ i (h : i < wss.length), tT t i = true → ∀ w ∈ wss[i], ∃ x ∈ w, tT t x.toNat = true
  keys : ∀ i k, i < k → k < items.length → kAt items i = kAt items k → tT t i = true → tT t k = true → False
theorem memWcls {wss : List (List (List Int))} {c : List Int} : ∀ {o : Nat}, c ∈ wcls wss o ↔ ∃ i, ∃ h : i < wss.length, ∃ w ∈ wss[i], c = wantCl (o + i) w := by
  induction wss with
  | nil => intro o; simp [wcls]
  | cons x r ih =>
    intro o
    rw [wcls, List.mem_append, List.mem_map, ih]
    constructor
    · rintro (⟨w, hw, rfl⟩ | ⟨i, hi, w, hw, rfl⟩)
      · exact ⟨0, by simp, w, by simpa using hw, rfl⟩
      · exact ⟨i + 1, by simp; omega, w, by simpa using hw, by rw [show o + 1 + i = o + (i + 1) by omega]⟩
    · rintro ⟨i, hi, w, hw, rfl⟩
      cases i with
      | zero => exact .inl ⟨w, by simpa using hw, rfl⟩
      | succ i => exact .inr ⟨i, by simp at hi; omega, w, by simpa using hw, by rw [show o + 1 + i = o + (i + 1) by omega]⟩
theorem memPairsTo {items : List ItemD} {c : List Int} {m : Nat} : c ∈ pairsTo items m ↔ ∃ i k, i < m ∧ k < items.length ∧ i < k ∧ kAt items i = kAt items k ∧ c = pairCl i k := by
  simp only [pairsTo, List.mem_flatMap, List.mem_range, pairsAt, List.mem_map, List.mem_filter, Bool.and_eq_true, decide_eq_true_eq]
  constructor
  · rintro ⟨i, hi, k, ⟨hk, h1, h2⟩, rfl⟩; exact ⟨i, k, hi, hk, h1, h2, rfl⟩
  · rintro ⟨i, k, hi, hk, h1, h2, rfl⟩; exact ⟨i, hi, k, ⟨hk, h1, h2⟩, rfl⟩
theorem clause_want {t : List Bool} {i : Nat} {w : List Int} (hv : ∀ x ∈ w, 0 ≤ x) : clauseTrue t (wantCl i w) = true ↔ (tT t i = true → ∃ x ∈ w, tT t x.toNat = true) := by
  unfold clauseTrue wantCl
  rw [List.any_cons, lit_neg, List.any_map]
  have h : w.any (litTrue t ∘ (· + 1)) = true ↔ ∃ x ∈ w, tT t x.toNat = true := by
    rw [List.any_eq_true]
    constructor
    · rintro ⟨x, hx, h⟩; exact ⟨x, hx, by rw [← lit_pos (hv x hx)]; exact h⟩
    · rintro ⟨x, hx, h⟩; exact ⟨x, hx, by show litTrue t (x + 1) = true; rw [lit_pos (hv x hx)]; exact h⟩
  cases ht : tT t i with
  | true => simpa using h
  | false => simp
theorem clause_pair {t : List Bool} {i k : Nat} : clauseTrue t (pairCl i k) = true ↔ (tT t i = true → tT t k = true → False) := by
  unfold clauseTrue pairCl
  simp only [List.any_cons, List.any_nil, Bool.or_false, lit_neg]
  cases tT t i <;> cases tT t k <;> simp
theorem meant_iff {items : List ItemD} {wss : List (List (List Int))} {r : Nat} {t : List Bool} (hv : validW items.length wss) :
    (allCls items wss (r : Int)).all (clauseTrue t) = true ↔ Meant items wss r t := by
  rw [List.all_eq_true]
  constructor
  · intro h
    refine ⟨?_, fun i hi ht w hw => ?_, fun i k hik hk he h1 h2 => ?_⟩
    · have := h [(r : Int) + 1] (by simp [allCls, headCls])
      simp only [clauseTrue, List.any_cons, List.any_nil, Bool.or_false] at this
      rw [lit_pos (by omega)] at this
      simpa using this
    · have := h (wantCl i w) (by simp only [allCls, headCls, List.mem_append, List.mem_cons]; exact .inl (.inr (memWcls.2 ⟨i, hi, w, hw, by simp⟩)))
      exact (clause_want fun x hx => (hv i hi w hw x hx).1).1 this ht
    · have := h (pairCl i k) (by simp only [allCls, List.mem_append]; exact .inr (memPairsTo.2 ⟨i, k, by omega, hk, hik, he, rfl⟩))
      exact clause_pair.1 this h1 h2
  · intro h c hc
    simp only [allCls, headCls, List.mem_append, List.mem_cons] at hc
    rcases hc with (rfl | hc) | hc
    · simp only [clauseTrue, List.any_cons, List.any_nil, Bool.or_false]
      rw [lit_pos (by omega)]
      simpa using h.root
    · obtain ⟨i, hi, w, hw, rfl⟩ := memWcls.1 hc
      rw [Nat.zero_add]
      exact (clause_want fun x hx => (hv i hi w hw x hx).1).2 fun ht => h.wants i hi ht w hw
    · obtain ⟨i, k, h1, h2, h3, h4, rfl⟩ := memPairsTo.1 hc
      exact clause_pair.2 (h.keys i k h3 h2 h4)
/-- Numbers that are right, by what is in them. -/
theorem rightB_iff {items : List ItemD} {wss : List (List (List Int))} {r : Nat} {l : List Int} {p : Nat → Bool} (hm : mayN items.length (r : Int) wss = 0) (hp : ∀ x : Int, x ∈ l ↔ 0 ≤ x ∧ x < items.length ∧ p x.toNat = true) :
    rightB items wss (r : Int) l = true ↔ p r = true ∧ (∀ i (h : i < wss.length), p i = true → ∀ w ∈ wss[i], ∃ x ∈ w, p x.toNat = true) ∧ ∀ i k, i < k → k < items.length → kAt items i = kAt items k → p i = true → p k = true → False := by
  obtain ⟨_, hr, hlen, hbad⟩ := mayN_zero hm
  obtain ⟨hr0, hr1⟩ := isItemB_iff.1 hr
  have hv := validW_of hbad
  have hpn : ∀ i : Nat, i < items.length → ((i : Int) ∈ l ↔ p i = true) := fun i hi => by rw [hp]; simp; omega
  have hall : l.all (isItemB items.length) = true := by
    rw [List.all_eq_true]; intro x hx; exact isItemB_iff.2 ⟨((hp x).1 hx).1, ((hp x).1 hx).2.1⟩
  have hwant : ∀ i (h : i < wss.length), ((wantsAt wss (i : Int)).all (wantOk l) = true ↔ ∀ w ∈ wss[i], ∃ x ∈ w, p x.toNat = true) := by
    intro i h
    rw [wantsAt_eq (by simpa using h)]
    simp only [Int.toNat_natCast, List.all_eq_true]
    constructor
    · intro h1 w hw
      obtain ⟨x, hx, h2⟩ := List.any_eq_true.1 (h1 w hw)
      exact ⟨x, hx, ((hp x).1 (hasB_iff.1 h2)).2.2⟩
    · intro h1 w hw
      obtain ⟨x, hx, h2⟩ := h1 w hw
      have := hv i h w hw x hx
      exact List.any_eq_true.2 ⟨x, hx, hasB_iff.2 ((hp x).2 ⟨this.1, this.2, h2⟩)⟩
  have hcl : (l.all fun n => !l.any (clash items n)) = true ↔ ∀ i k, i < k → k < items.length → kAt items i = kAt items k → p i = true → p k = true → False := by
    rw [List.all_eq_true]
    constructor
    · intro h i k hik hk he h1 h2
      have h3 := h (i : Int) ((hpn i (by omega)).2 h1)
      simp only [Bool.not_eq_true', List.any_eq_false] at h3
      refine h3 (k : Int) ((hpn k hk).2 h2) ?_
      simp only [clash, Bool.and_eq_true, decide_eq_true_eq]
      exact ⟨isItemB_iff.2 (by omega), by omega, he.symm⟩
    · intro h n hn
      simp only [Bool.not_eq_true', List.any_eq_false]
      intro k hk hc
      simp only [clash, Bool.and_eq_true, decide_eq_true_eq] at hc
      obtain ⟨h1, h2, h3⟩ := (hp n).1 hn
      obtain ⟨k1, k2, k3⟩ := (hp k).1 hk
      have en : ((n.toNat : Nat) : Int) = n := by omega
      have ek : ((k.toNat : Nat) : Int) = k := by omega
      rcases Nat.lt_or_ge n.toNat k.toNat with hlt | hge
      · exact h n.toNat k.toNat hlt (by omega) (by unfold kAt; rw [en, ek]; exact hc.2.2.symm) h3 k3
      · exact h k.toNat n.toNat (by omega) (by omega) (by unfold kAt; rw [en, ek]; exact hc.2.2) k3 h3
  simp only [rightB, Bool.and_eq_true, hm, hall, hcl, decide_true, true_and, hasB_iff]
  rw [hpn r (by omega)]
  constructor
  · rintro ⟨⟨⟨h1, _⟩, h2⟩, h3⟩
    refine ⟨h1, fun i hi ht => (hwant i hi).1 (List.all_eq_true.1 h3 (i : Int) ((hpn i (by omega)).2 ht)), h2⟩
  · rintro ⟨h1, h2, h3⟩
    refine ⟨⟨⟨h1, trivial⟩, h3⟩, List.all_eq_true.2 fun n hn => ?_⟩
    obtain ⟨k1, k2, k3⟩ := (hp n).1 hn
    have en : ((n.toNat : Nat) : Int) = n := by omega
    rw [← en]
    exact (hwant n.toNat (by omega)).2 (h2 n.toNat (by omega) k3)
theorem mB_take {t : List Bool} {n x : Nat} (h : x < n) : mB (t.take n) x = tT t x := by
  unfold mB tT List.getD
  rw [List.getElem?_take, if_pos h]
theorem mB_ge {t : List Bool} {x : Nat} (h : t.length ≤ x) : mB t x = false := by
  unfold mB List.getD
  rw [List.getElem?_eq_none h]; rfl
theorem mem_trues_take {t : List Bool} {n : Nat} {x : Int} : x ∈ trues (t.take n) ↔ 0 ≤ x ∧ x < n ∧ tT t x.toNat = true := by
  rw [mem_trues]
  constructor
  · rintro ⟨h0, h1⟩
    have hlt : x < n := by
      rcases Int.lt_or_le x n with h | h
      · exact h
      · rw [mB_ge (by simp; omega)] at h1; simp at h1
    exact ⟨h0, hlt, by rw [← mB_take (t := t) (n := n) (by omega)]; exact h1⟩
  · rintro ⟨h0, hlt, h1⟩
    exact ⟨h0, by rw [mB_take (by omega)]; exact h1⟩
theorem means_law {items : List ItemD} {wss : List (List (List Int))} {r : Int} {t : List Bool} (hm : mayN items.length r wss = 0) :
    (allCls items wss r).all (clauseTrue t) = rightB items wss r (trues (t.take items.length)) := by
  obtain ⟨_, hr, _, hbad⟩ := mayN_zero hm
  obtain ⟨hr0, hr1⟩ := isItemB_iff.1 hr
  obtain ⟨rn, rfl⟩ := Int.eq_ofNat_of_zero_le hr0
  have h1 := meant_iff (items := items) (r := rn) (t := t) (validW_of hbad)
  have h2 := rightB_iff (l := trues (t.take items.length)) (p := tT t) hm fun x => mem_trues_take
  rw [Bool.eq_iff_iff]
  refine h1.trans (Iff.trans ⟨fun h => ⟨h.root, h.wants, h.keys⟩, fun h => ⟨h.1, h.2.1, h.2.2⟩⟩ h2.symm)
theorem means_eq {items : List ItemD} {wss : List (List (List Int))} {r : Int} {t : List Bool} (hm : mayN items.length r wss = 0) :
    (holdsI (allCls items wss r) t == -1) = rightB items wss r (trues (t.take items.length)) := by
  rw [← means_law hm, Bool.eq_iff_iff, beq_iff_eq, holdsI_iff]
end Go.Proofs.Ytcebafeaikipmaa

namespace Go.Proofs.Ytcebafeaikipmaa
open Go.RowKit

/-- the name of a want: its item, its place -/
abbrev WantD := Int × Int
def wantCells (x : WantD) : List Value := [.int .i64 x.1, .int .i64 x.2]
abbrev VWant : RdV WantD := VCells wantCells
abbrev RWants := RArr 2 VWant
theorem RWants.stable : Stable RWants := RArr.stable (VCells.stable _)
def rowW (i : Nat) : Nat → List WantD
  | 0 => []
  | k + 1 => rowW i k ++ [((i : Int), (k : Int))]
def allTo (wss : List (List (List Int))) : Nat → List WantD
  | 0 => []
  | m + 1 => allTo wss m ++ rowW m (wss.getD m []).length
def allW (wss : List (List (List Int))) : List WantD := allTo wss wss.length
def hasW (l : List WantD) (x : WantD) : Bool := l.any (· == x)
def onlyRow (l : List WantD) (i : Nat) (ws : List (List Int)) : Nat → List (List Int)
  | 0 => []
  | k + 1 => onlyRow l i ws k ++ if hasW l ((i : Int), (k : Int)) then [ws.getD k []] else []
def onlyTo (l : List WantD) (wss : List (List (List Int))) : Nat → List (List (List Int))
  | 0 => []
  | m + 1 => onlyTo l wss m ++ [onlyRow l m (wss.getD m []) (wss.getD m []).length]
def onlyW (l : List WantD) (wss : List (List (List Int))) : List (List (List Int)) := onlyTo l wss wss.length
def withoutW (l : List WantD) (x : WantD) : List WantD := l.filter (· != x)
def lightC (n0 : Nat) (wss : List (List (List Int))) : Bool := decide (n0 ≤ 7) && decide (wss.length ≤ 7) && wss.all fun ws => decide (ws.length ≤ 4) && ws.all fun w => decide (w.length ≤ 6)
/-- the reference's search: f items are left -/
def someR (items : List ItemD) (wss : List (List (List Int))) (r : Int) : Nat → List Int → Bool
  | 0, taken => rightB items wss r taken
  | f + 1, taken => someR items wss r f taken || someR items wss r f (taken ++ [((items.length - (f + 1) : Nat) : Int)])
def blamedB (items : List ItemD) (wss : List (List (List Int))) (r : Int) : Bool := !someR items wss r items.length []
def leastL (B : List WantD → Bool) : List WantD → List WantD → List WantD
  | [], l => l
  | x :: xs, l => leastL B xs (if B (withoutW l x) then withoutW l x else l)

theorem rowW_len (i : Nat) : ∀ k, (rowW i k).length = k
  | 0 => rfl
  | k + 1 => by simp [rowW, rowW_len i k]
theorem mem_rowW {i : Nat} {x : WantD} : ∀ {k : Nat}, x ∈ rowW i k ↔ x.1 = (i : Int) ∧ 0 ≤ x.2 ∧ x.2 < (k : Int)
  | 0 => by simp [rowW]
            try omega
  | k + 1 => by
    rw [rowW, List.mem_append, mem_rowW, List.mem_singleton, Prod.ext_iff]
    constructor
    · rintro (⟨h1, h2, h3⟩ | ⟨h1, h2⟩)
      · exact ⟨h1, h2, by omega⟩
      · simp only at h1 h2; exact ⟨h1, by omega, by omega⟩
    · rintro ⟨h1, h2, h3⟩
      by_cases h : x.2 = (k : Int)
      · exact .inr ⟨h1, h⟩
      · exact .inl ⟨h1, h2, by omega⟩
theorem mem_allTo {wss : List (List (List Int))} {x : WantD} : ∀ {m : Nat}, x ∈ allTo wss m ↔ ∃ i k : Nat, i < m ∧ k < (wss.getD i []).length ∧ x = ((i : Int), (k : Int))
  | 0 => by simp [allTo]
  | m + 1 => by
    rw [allTo, List.mem_append, mem_allTo, mem_rowW]
    constructor
    · rintro (⟨i, k, h1, h2, h3⟩ | ⟨h1, h2, h3⟩)
      · exact ⟨i, k, by omega, h2, h3⟩
      · refine ⟨m, x.2.toNat, by omega, by omega, ?_⟩
        rw [Prod.ext_iff]; exact ⟨h1, by simp; omega⟩
    · rintro ⟨i, k, h1, h2, rfl⟩
      by_cases h : i = m
      · subst h; exact .inr ⟨rfl, by simp, by simpa using h2⟩
      · exact .inl ⟨i, k, by omega, h2, rfl⟩
theorem hasW_iff {l : List WantD} {x : WantD} : hasW l x = true ↔ x ∈ l := by
  unfold hasW
  rw [List.any_eq_true]
  constructor
  · rintro ⟨y, hy, e⟩
    have := beq_iff_eq.1 e
    exact this ▸ hy
  · intro h; exact ⟨x, h, by simp⟩
theorem onlyRow_mem {l : List WantD} {i : Nat} {ws : List (List Int)} {w : List Int} : ∀ {k : Nat}, w ∈ onlyRow l i ws k ↔ ∃ j : Nat, j < k ∧ ((i : Int), (j : Int)) ∈ l ∧ w = ws.getD j []
  | 0 => by simp [onlyRow]
  | k + 1 => by
    rw [onlyRow, List.mem_append, onlyRow_mem]
    constructor
    · rintro (⟨j, h1, h2, h3⟩ | h)
      · exact ⟨j, by omega, h2, h3⟩
      · split at h
        · rename_i h2
          exact ⟨k, by omega, hasW_iff.1 h2, by simpa using h⟩
        · simp at h
    · rintro ⟨j, h1, h2, h3⟩
      by_cases h : j = k
      · subst h; right; rw [if_pos (hasW_iff.2 h2)]; simpa using h3
      · exact .inl ⟨j, by omega, h2, h3⟩
theorem onlyRow_len (l : List WantD) (i : Nat) (ws : List (List Int)) : ∀ k, (onlyRow l i ws k).length ≤ k
  | 0 => by simp [onlyRow]
  | k + 1 => by
    have := onlyRow_len l i ws k
    rw [onlyRow, List.length_append]
    split <;> simp <;> omega
theorem onlyTo_len (l : List WantD) (wss : List (List (List Int))) : ∀ m, (onlyTo l wss m).length = m
  | 0 => rfl
  | m + 1 => by simp [onlyTo, onlyTo_len l wss m]
theorem onlyTo_get (l : List WantD) (wss : List (List (List Int))) : ∀ (m i : Nat), i < m → (onlyTo l wss m)[i]? = some (onlyRow l i (wss.getD i []) (wss.getD i []).length)
  | 0, i, h => absurd h (by omega)
  | m + 1, i, h => by
    rw [onlyTo]
    by_cases e : i = m
    · subst e
      rw [List.getElem?_append_right (by rw [onlyTo_len]; omega), onlyTo_len]; simp
    · rw [List.getElem?_append_left (by rw [onlyTo_len]; omega), onlyTo_get l wss m i (by omega)]
theorem onlyW_len (l : List WantD) (wss : List (List (List Int))) : (onlyW l wss).length = wss.length := onlyTo_len l wss _
theorem onlyW_get (l : List WantD) (wss : List (List (List Int))) {i : Nat} (h : i < (onlyW l wss).length) : (onlyW l wss)[i] = onlyRow l i (wss.getD i []) (wss.getD i []).length := by
  have := onlyTo_get l wss wss.length i (by rw [onlyW_len] at h; exact h)
  rw [show onlyTo l wss wss.length = onlyW l wss from rfl, List.getElem?_eq_getElem h] at this
  exact Option.some.inj this
theorem getD_at {wss : List (List (List Int))} {i : Nat} (h : i < wss.length) : wss.getD i [] = wss[i] := by simp [List.getD, h]
theorem onlyW_all (wss : List (List (List Int))) : onlyW (allW wss) wss = wss := by
  apply List.ext_getElem (onlyW_len _ _)
  intro i h1 h2
  rw [onlyW_get _ _ h1, getD_at h2]
  have : ∀ k, k ≤ wss[i].length → onlyRow (allW wss) i wss[i] k = wss[i].take k := by
    intro k
    induction k with
    | zero => intro _; simp [onlyRow]
    | succ k ih =>
      intro hk
      rw [onlyRow, ih (by omega), if_pos (hasW_iff.2 (show ((i : Int), (k : Int)) ∈ allW wss from mem_allTo.2 ⟨i, k, h2, by rw [getD_at h2]; omega, rfl⟩)), List.take_succ_eq_append_getElem (by omega)]
      simp [List.getD, show k < wss[i].length by omega]
  rw [this _ (Nat.le_refl _), List.take_length]
theorem onlyW_mem {l : List WantD} {wss : List (List (List Int))} {i : Nat} (h : i < (onlyW l wss).length) {w : List Int} (hw : w ∈ (onlyW l wss)[i]) : ∃ h2 : i < wss.length, w ∈ wss[i] := by
  have h2 : i < wss.length := by rw [onlyW_len] at h; exact h
  refine ⟨h2, ?_⟩
  rw [onlyW_get _ _ h, onlyRow_mem, getD_at h2] at hw
  obtain ⟨j, h3, -, rfl⟩ := hw
  simp only [List.getD, List.getElem?_eq_getElem h3, Option.getD_some]
  exact List.getElem_mem h3
theorem badRR_iff {n0 : Nat} {wss : List (List (List Int))} : badRR n0 wss = true ↔ ∃ i, ∃ h : i < wss.length, badR n0 wss[i] = true := by
  unfold badRR
  rw [List.any_eq_true]
  constructor
  · rintro ⟨ws, hw, h⟩
    obtain ⟨i, hi, rfl⟩ := List.getElem_of_mem hw
    exact ⟨i, hi, h⟩
  · rintro ⟨i, hi, h⟩
    exact ⟨_, List.getElem_mem hi, h⟩
theorem only_may {items : List ItemD} {wss : List (List (List Int))} {r : Int} (l : List WantD) (hm : mayN items.length r wss = 0) : mayN items.length r (onlyW l wss) = 0 := by
  obtain ⟨h1, h2, h3, h4⟩ := mayN_zero hm
  have h5 : badRR items.length (onlyW l wss) = false := by
    cases e : badRR items.length (onlyW l wss) with
    | false => rfl
    | true =>
      obtain ⟨i, hi, hb⟩ := badRR_iff.1 e
      unfold badR at hb
      rw [List.any_eq_true] at hb
      obtain ⟨w, hw, hb⟩ := hb
      obtain ⟨h6, h7⟩ := onlyW_mem hi hw
      have : badRR items.length wss = true := badRR_iff.2 ⟨i, h6, by unfold badR; rw [List.any_eq_true]; exact ⟨w, h7, hb⟩⟩
      rw [h4] at this; cases this
  unfold mayN
  rw [if_neg (by omega), if_neg (by rw [h2, onlyW_len]; simp [h3]), h5]
  simp
theorem lightC_W {n0 : Nat} {wss : List (List (List Int))} (h : lightC n0 wss = true) : n0 ≤ 7 ∧ wss.length ≤ 7 ∧ ∀ i (h : i < wss.length), wss[i].length ≤ 4 ∧ ∀ w ∈ wss[i], w.length ≤ 6 := by
  simp only [lightC, Bool.and_eq_true, decide_eq_true_eq, List.all_eq_true] at h
  exact ⟨h.1.1, h.1.2, fun i hi => h.2 _ (List.getElem_mem hi)⟩
theorem lightC_of {n0 : Nat} {wss : List (List (List Int))} (h : n0 ≤ 7 ∧ wss.length ≤ 7 ∧ ∀ i (h : i < wss.length), wss[i].length ≤ 4 ∧ ∀ w ∈ wss[i], w.length ≤ 6) : lightC n0 wss = true := by
  simp only [lightC, Bool.and_eq_true, decide_eq_true_eq, List.all_eq_true]
  refine ⟨⟨h.1, h.2.1⟩, fun ws hw => ?_⟩
  obtain ⟨i, hi, rfl⟩ := List.getElem_of_mem hw
  exact h.2.2 i hi
theorem only_light {n0 : Nat} {wss : List (List (List Int))} (l : List WantD) (h : lightC n0 wss = true) : lightC n0 (onlyW l wss) = true := by
  obtain ⟨h1, h2, h3⟩ := lightC_W h
  refine lightC_of ⟨h1, by rw [onlyW_len]; exact h2, fun i hi => ⟨?_, fun w hw => ?_⟩⟩
  · rw [onlyW_get _ _ hi]
    refine Nat.le_trans (onlyRow_len _ _ _ _) ?_
    have h4 : i < wss.length := by rw [onlyW_len] at hi; exact hi
    rw [getD_at h4]
    exact (h3 i h4).1
  · obtain ⟨h4, h5⟩ := onlyW_mem hi hw
    exact (h3 i h4).2 w h5
theorem lightC_lightW {n0 : Nat} {wss : List (List (List Int))} (h : lightC n0 wss = true) : lightW wss := by
  obtain ⟨h1, h2, h3⟩ := lightC_W h
  intro ws hw
  obtain ⟨i, hi, rfl⟩ := List.getElem_of_mem hw
  refine ⟨by have := (h3 i hi).1; omega, fun w hw => by have := (h3 i hi).2 w hw; omega⟩

/-! ### The search of all choices -/
theorem someR_iff {items : List ItemD} {wss : List (List (List Int))} {r : Int} : ∀ (f : Nat) (taken : List Int), f ≤ items.length → (someR items wss r f taken = true ↔ ∃ o : List Bool, o.length = f ∧ rightB items wss r (taken ++ truesFrom o (items.length - f)) = true)
  | 0, taken, _ => by
    simp only [someR]
    constructor
    · intro h; exact ⟨[], rfl, by simpa [truesFrom] using h⟩
    · rintro ⟨o, ho, h⟩
      obtain rfl := List.eq_nil_of_length_eq_zero ho
      simpa [truesFrom] using h
  | f + 1, taken, hf => by
    have e : items.length - (f + 1) + 1 = items.length - f := by omega
    rw [someR, Bool.or_eq_true, someR_iff f _ (by omega), someR_iff f _ (by omega)]
    constructor
    · rintro (⟨o, ho, h⟩ | ⟨o, ho, h⟩)
      · refine ⟨false :: o, by simp [ho], ?_⟩
        simpa [truesFrom, e] using h
      · refine ⟨true :: o, by simp [ho], ?_⟩
        simpa [truesFrom, e, List.append_assoc] using h
    · rintro ⟨o, ho, h⟩
      cases o with
      | nil => simp at ho
      | cons b o =>
        have ho2 : o.length = f := by simpa using ho
        cases b with
        | false => exact .inl ⟨o, ho2, by simpa [truesFrom, e] using h⟩
        | true => exact .inr ⟨o, ho2, by simpa [truesFrom, e, List.append_assoc] using h⟩
theorem blamed_iff {items : List ItemD} {wss : List (List (List Int))} {r : Int} (hm : mayN items.length r wss = 0) : blamedB items wss r = false ↔ ∃ o : List Bool, o.length = items.length ∧ (allCls items wss r).all (clauseTrue o) = true := by
  unfold blamedB
  rw [Bool.not_eq_false', someR_iff _ _ (Nat.le_refl _)]
  constructor
  · rintro ⟨o, ho, h⟩
    refine ⟨o, ho, ?_⟩
    rw [means_law hm, List.take_of_length_le (by omega)]
    simpa [trues] using h
  · rintro ⟨o, ho, h⟩
    refine ⟨o, ho, ?_⟩
    rw [means_law hm, List.take_of_length_le (by omega)] at h
    simpa [trues] using h
/-- with fewer wants what can be still can be -/
theorem blamed_mono {items : List ItemD} {wss : List (List (List Int))} {r : Int} {l l' : List WantD} (hm : mayN items.length r wss = 0) (hl : ∀ x ∈ l, x ∈ l') (h : blamedB items (onlyW l wss) r = true) : blamedB items (onlyW l' wss) r = true := by
  cases e : blamedB items (onlyW l' wss) r with
  | true => rfl
  | false =>
    obtain ⟨_, hr, _, _⟩ := mayN_zero hm
    obtain ⟨hr0, hr1⟩ := isItemB_iff.1 hr
    obtain ⟨rn, rfl⟩ := Int.eq_ofNat_of_zero_le hr0
    have hm1 := only_may l hm
    have hm2 := only_may l' hm
    obtain ⟨o, ho, hs⟩ := (blamed_iff hm2).1 e
    have := (meant_iff (r := rn) (t := o) (validW_of (mayN_zero hm2).2.2.2)).1 hs
    have h3 : blamedB items (onlyW l wss) (rn : Int) = false := (blamed_iff hm1).2 ⟨o, ho, (meant_iff (r := rn) (t := o) (validW_of (mayN_zero hm1).2.2.2)).2 ⟨this.root, fun i hi ht w hw => ?_, this.keys⟩⟩
    · rw [h] at h3; cases h3
    · have hi2 : i < (onlyW l' wss).length := by rw [onlyW_len] at hi ⊢; exact hi
      refine this.wants i hi2 ht w ?_
      rw [onlyW_get _ _ hi, onlyRow_mem] at hw
      obtain ⟨j, h1, h2, h3⟩ := hw
      rw [onlyW_get _ _ hi2, onlyRow_mem]
      exact ⟨j, h1, hl _ h2, h3⟩
theorem mem_without {l : List WantD} {x y : WantD} : y ∈ withoutW l x ↔ y ∈ l ∧ y ≠ x := by simp [withoutW]
theorem leastL_sub {B : List WantD → Bool} : ∀ (xs l : List WantD), ∀ y ∈ leastL B xs l, y ∈ l
  | [], _, _, h => h
  | x :: xs, l, y, h => by
    rw [leastL] at h
    have := leastL_sub xs _ y h
    split at this
    · exact (mem_without.1 this).1
    · exact this
theorem leastL_blamed {B : List WantD → Bool} : ∀ (xs l : List WantD), B l = true → B (leastL B xs l) = true
  | [], _, h => h
  | x :: xs, l, h => by
    rw [leastL]
    refine leastL_blamed xs _ ?_
    split
    · assumption
    · exact h
theorem leastL_min {B : List WantD → Bool} (hB : ∀ l l', (∀ x ∈ l, x ∈ l') → B l = true → B l' = true) : ∀ (xs l : List WantD), ∀ x ∈ xs, x ∈ leastL B xs l → B (withoutW (leastL B xs l) x) = false
  | [], _, _, h, _ => absurd h (by simp)
  | z :: xs, l, x, hx, hm => by
    rw [leastL] at hm ⊢
    rcases List.mem_cons.1 hx with rfl | hx
    · split at hm
      · rename_i hb
        exact absurd (mem_without.1 (leastL_sub _ _ _ hm)).2 (by simp)
      · rename_i hb
        rw [if_neg hb]
        cases e : B (withoutW (leastL B xs l) x) with
        | false => rfl
        | true =>
          exact absurd (hB _ _ (fun y hy => mem_without.2 ⟨leastL_sub _ _ _ (mem_without.1 hy).1, (mem_without.1 hy).2⟩) e) hb
    · exact leastL_min hB xs _ x hx hm
end Go.Proofs.Ytcebafeaikipmaa
