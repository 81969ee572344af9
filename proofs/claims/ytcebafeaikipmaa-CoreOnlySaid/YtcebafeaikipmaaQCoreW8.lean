/- The state of CoreOnly's region with two calls and two boxes. -/
import Derived.Deep.RegionLaw
import Derived.Deep.RegionHeld
import Derived.Test.YtcebafeaikipmaaCb7
import Derived.Test.YtcebafeaikipmaaQCoreK2
import Derived.Test.YtcebafeaikipmaaQCoreW7
namespace Go.Proofs.Ytcebafeaikipmaa
open Go.RowKit

abbrev ZD : Obj := .cells #[.slice none 0 0, .slice none 0 0, .int .i64 0] 25
def St (w1 wx : World) (p5 p6 : Option Nat) (c1 c2 : Option (Value × Value)) (items : List ItemD) (ws : List (List (List Int))) : Prop :=
  Below w1.heap.size w1 wx ∧ (∀ P, p5 = some P → w1.heap.size ≤ P ∧ wx.heap[P]? = some ZD) ∧ (∀ P, p6 = some P → w1.heap.size ≤ P ∧ wx.heap[P]? = some ZD) ∧ (∀ P, p5 = some P → p6 ≠ some P) ∧
  (∀ x, c1 = some x → RItems wx (fun b => b < wx.heap.size ∧ p5 ≠ some b ∧ p6 ≠ some b) x.1 items ∧ RIntsss wx (fun b => b < wx.heap.size ∧ p5 ≠ some b ∧ p6 ≠ some b) x.2 ws) ∧
  (∀ x, c2 = some x → RItems wx (fun b => b < wx.heap.size ∧ p5 ≠ some b ∧ p6 ≠ some b) x.1 items ∧ RIntsss wx (fun b => b < wx.heap.size ∧ p5 ≠ some b ∧ p6 ≠ some b) x.2 ws)
theorem St.start (w1 : World) (items : List ItemD) (ws : List (List (List Int))) : St w1 w1 none none none none items ws :=
  ⟨Below.refl _ _, nofun, nofun, nofun, nofun, nofun⟩
theorem St.lt5 {w1 wx : World} {P : Nat} {p6 : Option Nat} {c1 c2 : Option (Value × Value)} {items : List ItemD} {ws : List (List (List Int))} (h : St w1 wx (some P) p6 c1 c2 items ws) : P < wx.heap.size := (Array.getElem?_eq_some_iff.1 (h.2.1 P rfl).2).1
theorem St.mv {w1 wx wy : World} {p5 p6 q5 q6 : Option Nat} {c1 c2 : Option (Value × Value)} {items : List ItemD} {ws : List (List (List Int))} (h : St w1 wx p5 p6 c1 c2 items ws) (hb : Below wx.heap.size wx wy)
    (h5 : ∀ P, q5 = some P → p5 = some P ∨ (wx.heap.size ≤ P ∧ wy.heap[P]? = some ZD)) (h6 : ∀ P, q6 = some P → p6 = some P ∨ (wx.heap.size ≤ P ∧ wy.heap[P]? = some ZD)) (hn : ∀ P, q5 = some P → q6 ≠ some P) : St w1 wy q5 q6 c1 c2 items ws := by
  obtain ⟨h1, h2, h3, h4, h7, h8⟩ := h
  have hs := h1.size
  have hk : ∀ {p q : Option Nat}, (∀ P, p = some P → w1.heap.size ≤ P ∧ wx.heap[P]? = some ZD) → (∀ P, q = some P → p = some P ∨ (wx.heap.size ≤ P ∧ wy.heap[P]? = some ZD)) → ∀ P, q = some P → w1.heap.size ≤ P ∧ wy.heap[P]? = some ZD := fun hp hq P e => by
    rcases hq P e with h | ⟨a, b⟩
    · exact ⟨(hp P h).1, (hb.block P (Array.getElem?_eq_some_iff.1 (hp P h).2).1).trans (hp P h).2⟩
    · exact ⟨by omega, b⟩
  have hr : ∀ b, b < wx.heap.size ∧ p5 ≠ some b ∧ p6 ≠ some b → b < wy.heap.size ∧ q5 ≠ some b ∧ q6 ≠ some b := fun b hb' => ⟨Nat.lt_of_lt_of_le hb'.1 hb.size, fun e => by
    rcases h5 b e with h | ⟨a, -⟩
    · exact hb'.2.1 h
    · have := hb'.1; omega, fun e => by
    rcases h6 b e with h | ⟨a, -⟩
    · exact hb'.2.2 h
    · have := hb'.1; omega⟩
  exact ⟨h1.trans (hb.mono hs), hk h2 h5, hk h3 h6, hn, fun x e => ⟨RItems.stable _ _ _ _ _ _ (h7 x e).1 (fun b hb' => hb.block b hb'.1) hr, RIntsss.stable _ _ _ _ _ _ (h7 x e).2 (fun b hb' => hb.block b hb'.1) hr⟩,
    fun x e => ⟨RItems.stable _ _ _ _ _ _ (h8 x e).1 (fun b hb' => hb.block b hb'.1) hr, RIntsss.stable _ _ _ _ _ _ (h8 x e).2 (fun b hb' => hb.block b hb'.1) hr⟩⟩
theorem St.a5 {w1 wx : World} {p6 : Option Nat} {c1 c2 : Option (Value × Value)} {items : List ItemD} {ws : List (List (List Int))} (h : St w1 wx none p6 c1 c2 items ws) : St w1 (wx.alloc ZD) (some wx.heap.size) p6 c1 c2 items ws :=
  h.mv (below_alloc _ _) (fun P e => .inr (by cases e; exact ⟨Nat.le_refl _, heap_alloc_new _ _⟩)) (fun P e => .inl e) fun P e e6 => by
    cases e; have := (Array.getElem?_eq_some_iff.1 (h.2.2.1 _ e6).2).1; omega
theorem St.a6 {w1 wx : World} {p5 : Option Nat} {c1 c2 : Option (Value × Value)} {items : List ItemD} {ws : List (List (List Int))} (h : St w1 wx p5 none c1 c2 items ws) : St w1 (wx.alloc ZD) p5 (some wx.heap.size) c1 c2 items ws :=
  h.mv (below_alloc _ _) (fun P e => .inl e) (fun P e => .inr (by cases e; exact ⟨Nat.le_refl _, heap_alloc_new _ _⟩)) fun P e e6 => by
    cases e6; have := (Array.getElem?_eq_some_iff.1 (h.2.1 _ e).2).1; omega
theorem St.a5' {w1 wx : World} {P : Nat} {p6 : Option Nat} {c1 c2 : Option (Value × Value)} {items : List ItemD} {ws : List (List (List Int))} (h : St w1 wx none p6 c1 c2 items ws) (hP : wx.heap.size = P) : St w1 (wx.alloc ZD) (some P) p6 c1 c2 items ws := hP ▸ h.a5
theorem St.a6' {w1 wx : World} {P : Nat} {p5 : Option Nat} {c1 c2 : Option (Value × Value)} {items : List ItemD} {ws : List (List (List Int))} (h : St w1 wx p5 none c1 c2 items ws) (hP : wx.heap.size = P) : St w1 (wx.alloc ZD) p5 (some P) c1 c2 items ws := hP ▸ h.a6
theorem St.dr {w1 wx : World} {p5 p6 : Option Nat} {c1 c2 : Option (Value × Value)} {items : List ItemD} {ws : List (List (List Int))} (h : St w1 wx p5 p6 c1 c2 items ws) : St w1 wx.drew p5 p6 c1 c2 items ws :=
  h.mv (Below.drew (Below.refl _ _)) (fun _ e => .inl e) (fun _ e => .inl e) h.2.2.2.1
theorem St.called1 {w1 Wc w3 : World} {p5 p6 : Option Nat} {c2 : Option (Value × Value)} {items : List ItemD} {ws : List (List (List Int))} {vI vW : Value} (hS : St w1 Wc p5 p6 none c2 items ws) (b3 : Below Wc.heap.size Wc w3) (hI : RItems w3 (fun b => b < w3.heap.size ∧ (p5 ≠ some b ∧ p6 ≠ some b)) vI items) (hW : RIntsss w3 (fun b => b < w3.heap.size ∧ (p5 ≠ some b ∧ p6 ≠ some b)) vW ws) : St w1 w3 p5 p6 (some (vI, vW)) c2 items ws := by
  have h := hS.mv b3 (fun _ e => .inl e) (fun _ e => .inl e) hS.2.2.2.1
  exact ⟨h.1, h.2.1, h.2.2.1, h.2.2.2.1, fun x e => by cases e; exact ⟨hI, hW⟩, h.2.2.2.2.2⟩
theorem St.called2 {w1 Wc w3 : World} {p5 p6 : Option Nat} {c1 : Option (Value × Value)} {items : List ItemD} {ws : List (List (List Int))} {vI vW : Value} (hS : St w1 Wc p5 p6 c1 none items ws) (b3 : Below Wc.heap.size Wc w3) (hI : RItems w3 (fun b => b < w3.heap.size ∧ (p5 ≠ some b ∧ p6 ≠ some b)) vI items) (hW : RIntsss w3 (fun b => b < w3.heap.size ∧ (p5 ≠ some b ∧ p6 ≠ some b)) vW ws) : St w1 w3 p5 p6 c1 (some (vI, vW)) items ws := by
  have h := hS.mv b3 (fun _ e => .inl e) (fun _ e => .inl e) hS.2.2.2.1
  exact ⟨h.1, h.2.1, h.2.2.1, h.2.2.2.1, h.2.2.2.2.1, fun x e => by cases e; exact ⟨hI, hW⟩⟩
theorem St.fresh {w1 Wc : World} {p5 p6 : Option Nat} {c1 c2 : Option (Value × Value)} {items : List ItemD} {ws : List (List (List Int))} (hS : St w1 Wc p5 p6 c1 c2 items ws) : ∀ b, Wc.heap.size ≤ b → p5 ≠ some b ∧ p6 ≠ some b := fun b hb =>
  ⟨fun e => by have := (Array.getElem?_eq_some_iff.1 (hS.2.1 b e).2).1; omega, fun e => by have := (Array.getElem?_eq_some_iff.1 (hS.2.2.1 b e).2).1; omega⟩
theorem St.lo {w1 Wc : World} {p5 p6 : Option Nat} {c1 c2 : Option (Value × Value)} {items : List ItemD} {ws : List (List (List Int))} (hS : St w1 Wc p5 p6 c1 c2 items ws) : ∀ b, b < w1.heap.size → p5 ≠ some b ∧ p6 ≠ some b := fun b hb =>
  ⟨fun e => by have := (hS.2.1 b e).1; omega, fun e => by have := (hS.2.2.1 b e).1; omega⟩
theorem dc_alloc {w : World} {p : Nat} {a b c : Value} {o : Obj} (h : w.cell? ⟨p, 0, none⟩ = some a ∧ w.cell? ⟨p, 1, none⟩ = some b ∧ w.cell? ⟨p, 2, none⟩ = some c) (hp : p < w.heap.size) :
    (w.alloc o).cell? ⟨p, 0, none⟩ = some a ∧ (w.alloc o).cell? ⟨p, 1, none⟩ = some b ∧ (w.alloc o).cell? ⟨p, 2, none⟩ = some c :=
  ⟨by rw [World.cell?_alloc_lt _ _ _ hp]; exact h.1, by rw [World.cell?_alloc_lt _ _ _ hp]; exact h.2.1, by rw [World.cell?_alloc_lt _ _ _ hp]; exact h.2.2⟩
theorem dc_set {w : World} {p P j : Nat} {a b c q : Value} (h : w.cell? ⟨p, 0, none⟩ = some a ∧ w.cell? ⟨p, 1, none⟩ = some b ∧ w.cell? ⟨p, 2, none⟩ = some c) (hp : P ≠ p) :
    (w.setCell ⟨P, j, none⟩ q).cell? ⟨p, 0, none⟩ = some a ∧ (w.setCell ⟨P, j, none⟩ q).cell? ⟨p, 1, none⟩ = some b ∧ (w.setCell ⟨P, j, none⟩ q).cell? ⟨p, 2, none⟩ = some c := by
  have hb := Below.heap_setCell w ⟨P, j, none⟩ q p (fun e => hp e.symm)
  exact ⟨(World.cell?_of_block hb).trans h.1, (World.cell?_of_block hb).trans h.2.1, (World.cell?_of_block hb).trans h.2.2⟩
def Two (w1 wx : World) (P5 P6 : Nat) (vI vW vJ vX : Value) (r : Int) (items : List ItemD) (ws : List (List (List Int))) : Prop :=
  Below w1.heap.size w1 wx ∧ wx.heap[P5]? = some (.cells #[vI, vW, .int .i64 r] 25 (0, 0)) ∧ wx.heap[P6]? = some (.cells #[vJ, vX, .int .i64 r] 25 (0, 0)) ∧
  (RItems wx (Lt wx.heap.size) vI items ∧ RIntsss wx (Lt wx.heap.size) vW ws) ∧ RItems wx (Lt wx.heap.size) vJ items ∧ RIntsss wx (Lt wx.heap.size) vX ws
abbrev set3 (w : World) (P : Nat) (x y z : Value) : World := ((w.setCell ⟨P, 0, none⟩ x).setCell ⟨P, 1, none⟩ y).setCell ⟨P, 2, none⟩ z
theorem St.stores {w1 wx : World} {P5 P6 : Nat} {vI vW vJ vX : Value} {r : Int} {items : List ItemD} {ws : List (List (List Int))} (h : St w1 wx (some P5) (some P6) (some (vI, vW)) (some (vJ, vX)) items ws) :
    Two w1 (set3 (set3 wx P5 vI vW (.int .i64 r)) P6 vJ vX (.int .i64 r)) P5 P6 vI vW vJ vX r items ws := by
  obtain ⟨h1, h2, h3, h4, h5, h6⟩ := h
  obtain ⟨a5, b5⟩ := h2 P5 rfl
  obtain ⟨a6, b6⟩ := h3 P6 rfl
  have hne : P5 ≠ P6 := fun e => h4 P5 rfl (by rw [e])
  have hag : Ag (fun b => b < wx.heap.size ∧ some P5 ≠ some b ∧ some P6 ≠ some b) wx (set3 (set3 wx P5 vI vW (.int .i64 r)) P6 vJ vX (.int .i64 r)) :=
    (ag3R (fun b hb => fun e => hb.2.1 (by rw [e])) _ _ _).trans (ag3R (fun b hb => fun e => hb.2.2 (by rw [e])) _ _ _)
  have hr : ∀ b, b < wx.heap.size ∧ some P5 ≠ some b ∧ some P6 ≠ some b → Lt (set3 (set3 wx P5 vI vW (.int .i64 r)) P6 vJ vX (.int .i64 r)).heap.size b := fun b hb => by
    show b < _
    simpa using hb.1
  have e6 : (set3 wx P5 vI vW (.int .i64 r)).heap[P6]? = some ZD := (ag3R (S := fun b => b ≠ P5) (fun b hb => hb) _ _ _ P6 (fun e => hne e.symm)).trans b6
  have e5 : (set3 (set3 wx P5 vI vW (.int .i64 r)) P6 vJ vX (.int .i64 r)).heap[P5]? = some (.cells #[vI, vW, .int .i64 r] 25 (0, 0)) := (ag3R (S := fun b => b ≠ P6) (fun b hb => hb) _ _ _ P5 hne).trans (set3R b5 _ _ _)
  exact ⟨below3R (below3R h1 a5 _ _ _) a6 _ _ _, e5, set3R e6 _ _ _, ⟨RItems.stable _ _ _ _ _ _ (h5 _ rfl).1 hag hr, RIntsss.stable _ _ _ _ _ _ (h5 _ rfl).2 hag hr⟩, RItems.stable _ _ _ _ _ _ (h6 _ rfl).1 hag hr, RIntsss.stable _ _ _ _ _ _ (h6 _ rfl).2 hag hr⟩
end Go.Proofs.Ytcebafeaikipmaa
