/- core.Hits: its closure. / core.Hits: what it computes. -/
import Derived.Deep.RegionHeld3
import Derived.Test.YtcebafeaikipmaaCb1
import Derived.Test.YtcebafeaikipmaaQCoreK4
namespace Go.Proofs.Ytcebafeaikipmaa
open Go.RowKit
open S15 (Ch ch_new ch_set ch_grown)

def hitsR (B : List WantD → Bool) : Nat → List WantD → List (List WantD)
  | 0, _ => []
  | n + 1, left => if B left then leastL B left left :: (match leastL B left left with | [] => [] | x :: _ => hitsR B n (withoutW left x)) else []
theorem hitsR_no {B : List WantD → Bool} {n : Nat} {left : List WantD} (h : n = 0 ∨ B left = false) : hitsR B n left = [] := by
  rcases h with rfl | h
  · rfl
  · cases n with
    | zero => rfl
    | succ n => rw [hitsR, h]; simp
theorem hitsR_end {B : List WantD → Bool} {n : Nat} {left : List WantD} (hn : 0 < n) (h : B left = true) (he : leastL B left left = []) : hitsR B n left = [[]] := by
  obtain ⟨m, rfl⟩ : ∃ m, n = m + 1 := ⟨n - 1, by omega⟩
  rw [hitsR, h, if_pos rfl, he]
theorem hitsR_cons {B : List WantD → Bool} {n : Nat} {left : List WantD} {x : WantD} {xs : List WantD} (hn : 0 < n) (h : B left = true) (he : leastL B left left = x :: xs) : hitsR B n left = (x :: xs) :: hitsR B (n - 1) (withoutW left x) := by
  obtain ⟨m, rfl⟩ : ∃ m, n = m + 1 := ⟨n - 1, by omega⟩
  rw [hitsR, h, if_pos rfl, he]; rfl
theorem hitsR_len (B : List WantD → Bool) : ∀ (n : Nat) (left : List WantD), (hitsR B n left).length ≤ n
  | 0, _ => by simp [hitsR]
  | n + 1, left => by
    rw [hitsR]
    split
    · rw [List.length_cons]
      split
      · simp
      · have := hitsR_len B n (withoutW left ‹WantD›); omega
    · simp
structure HiEnv (w : World) (B0 p0 p1 p2 p3 : Nat) (vI vW : Value) (r most lim : Int) (items : List ItemD) (wss : List (List (List Int))) (v : Value) : Prop where
  h0 : w.heap[p0]? = some (.cells #[vI, vW, .int .i64 r] 25 (0, 0))
  h1 : w.heap[p1]? = some (.cells #[.int .i64 most] 3 (0, 0))
  h2 : w.heap[p2]? = some (.cells #[v] 47 (0, 0))
  h3 : w.heap[p3]? = some (.cells #[.int .i64 lim] 3 (0, 0))
  n02 : p0 ≠ p2
  n12 : p1 ≠ p2
  n32 : p3 ≠ p2
  lo : B0 ≤ p0 ∧ B0 ≤ p1 ∧ B0 ≤ p2 ∧ B0 ≤ p3
  rI : RItems w (Lt B0) vI items
  rW : RIntsss w (Lt B0) vW wss
section
variable {w w' : World} {B0 p0 p1 p2 p3 Bz : Nat} {vI vW v v' : Value} {r most lim : Int} {items : List ItemD} {wss : List (List (List Int))}
theorem HiEnv.lt (h : HiEnv w B0 p0 p1 p2 p3 vI vW r most lim items wss v) : p0 < w.heap.size ∧ p1 < w.heap.size ∧ p2 < w.heap.size ∧ p3 < w.heap.size ∧ B0 ≤ w.heap.size := by
  have l0 := (Array.getElem?_eq_some_iff.1 h.h0).1
  have hlo := h.lo
  exact ⟨l0, (Array.getElem?_eq_some_iff.1 h.h1).1, (Array.getElem?_eq_some_iff.1 h.h2).1, (Array.getElem?_eq_some_iff.1 h.h3).1, by omega⟩
theorem HiEnv.keep (h : HiEnv w B0 p0 p1 p2 p3 vI vW r most lim items wss v) (hB : p0 < Bz ∧ p1 < Bz ∧ p2 < Bz ∧ p3 < Bz ∧ B0 ≤ Bz) (hk : ∀ b, b < Bz → w'.heap[b]? = w.heap[b]?) : HiEnv w' B0 p0 p1 p2 p3 vI vW r most lim items wss v :=
  ⟨(hk _ hB.1).trans h.h0, (hk _ hB.2.1).trans h.h1, (hk _ hB.2.2.1).trans h.h2, (hk _ hB.2.2.2.1).trans h.h3, h.n02, h.n12, h.n32, h.lo, RItems.stable.agree h.rI (fun b (hb' : b < B0) => hk b (by omega)), RIntsss.stable.agree h.rW (fun b (hb' : b < B0) => hk b (by omega))⟩
theorem HiEnv.up (h : HiEnv w B0 p0 p1 p2 p3 vI vW r most lim items wss v) (hb : Below w.heap.size w w') : HiEnv w' B0 p0 p1 p2 p3 vI vW r most lim items wss v := h.keep h.lt hb.block
theorem HiEnv.set (h : HiEnv w B0 p0 p1 p2 p3 vI vW r most lim items wss v) (v' : Value) : HiEnv (w.setCell ⟨p2, 0, none⟩ v') B0 p0 p1 p2 p3 vI vW r most lim items wss v' := by
  have hs : ∀ b, b ≠ p2 → (w.setCell ⟨p2, 0, none⟩ v').heap[b]? = w.heap[b]? := fun b hb => Below.heap_setCell _ _ _ b hb
  have hlo := h.lo
  exact ⟨(hs _ h.n02).trans h.h0, (hs _ h.n12).trans h.h1, heap_setCell_same w p2 0 _ _ _ h.h2, (hs _ h.n32).trans h.h3, h.n02, h.n12, h.n32, h.lo, RItems.stable.agree h.rI (fun b (hb' : b < B0) => hs b (by omega)), RIntsss.stable.agree h.rW (fun b (hb' : b < B0) => hs b (by omega))⟩
theorem HiEnv.cells (h : HiEnv w B0 p0 p1 p2 p3 vI vW r most lim items wss v) : (w.cell? ⟨p0, 0, none⟩ = some vI ∧ w.cell? ⟨p0, 1, none⟩ = some vW ∧ w.cell? ⟨p0, 2, none⟩ = some (.int .i64 r)) ∧ w.cell? ⟨p1, 0, none⟩ = some (.int .i64 most) ∧ w.cell? ⟨p2, 0, none⟩ = some v ∧ w.cell? ⟨p3, 0, none⟩ = some (.int .i64 lim) ∧ w.frozen? ⟨p2, 0, none⟩ = false :=
  ⟨⟨cell_of_row _ _ _ _ _ (0, 0) h.h0, cell_of_row _ _ _ _ _ (0, 0) h.h0, cell_of_row _ _ _ _ _ (0, 0) h.h0⟩, cell_of_row _ _ _ _ _ (0, 0) h.h1, cell_of_row _ _ _ _ _ (0, 0) h.h2, cell_of_row _ _ _ _ _ (0, 0) h.h3, frozen_of_row _ _ _ _ _ h.h2⟩
theorem HiEnv.reads (h : HiEnv w B0 p0 p1 p2 p3 vI vW r most lim items wss v) : RItems w (Lt w.heap.size) vI items ∧ RIntsss w (Lt w.heap.size) vW wss :=
  ⟨RItems.stable.sub h.rI fun b (hb : b < B0) => Nat.lt_of_lt_of_le hb h.lt.2.2.2.2, RIntsss.stable.sub h.rW fun b (hb : b < B0) => Nat.lt_of_lt_of_le hb h.lt.2.2.2.2⟩
end
theorem eWantRow : Elem1 Try.prog 47 26 24 := elem1_mk (z := .slice none 0 0) Try.underlying47 (by kernel_rfl) (by omega) rfl
/-- isBlamed where the search is never open -/
theorem isBlamed_sure {items : List ItemD} {wss : List (List (List Int))} {r : Int} (hl : lightC items.length wss = true) (hm : mayN items.length r wss = 0) (s0 s1 : Value) (w : World) (h0 : RItems w (Lt w.heap.size) s0 items) (hw : RIntsss w (Lt w.heap.size) s1 wss) :
    Calls Try.prog 28 #[.agg #[s0, s1, .int .i64 r], .int .i64 1000] w fun e w' => e = .returned (.bool (blamedB items wss r)) ∧ Below w.heap.size w w' :=
  isBlamed_any s0 s1 r items wss 1000 w (.ok (blamedB items wss r)) h0 hw hl (.inr (by omega)) (by omega) ⟨hm, by omega, never_open hm hl (by decide), rfl⟩
theorem least_sure {items : List ItemD} {wss : List (List (List Int))} {r : Int} (hl : lightC items.length wss = true) (hm : mayN items.length r wss = 0) (s0 s1 sl : Value) (l : List WantD) (S : Nat → Prop) (w : World) (hS : ∀ b, w.heap.size ≤ b → S b) (h0 : RItems w (Lt w.heap.size) s0 items) (hw : RIntsss w (Lt w.heap.size) s1 wss)
    (hsl : RWants w (fun b => S b ∧ b < w.heap.size) sl l) (hll : l.length ≤ 7000) :
    Calls Try.prog 29 #[.agg #[s0, s1, .int .i64 r], sl, .int .i64 1000] w fun e w' => (∃ A n c, n = (leastL (fun m => blamedB items (onlyW m wss) r) l l).length ∧ e = .returned (.slice A n c) ∧ RWants w' (fun b => S b ∧ b < w'.heap.size) (.slice A n c) (leastL (fun m => blamedB items (onlyW m wss) r) l l)) ∧ Below w.heap.size w w' := by
  refine (least_any s0 s1 sl r items wss l 1000 w (fun m => .ok (blamedB items (onlyW m wss) r)) S hS h0 hw hsl hl (by omega) (.inr (by omega)) (by omega) fun m => ⟨only_may m hm, by omega, never_open (only_may m hm) (only_light m hl) (by decide), rfl⟩).mono ?_
  rintro e w' ⟨he, hb⟩
  rw [leastO_ok (fun _ => rfl)] at he
  obtain ⟨v, rfl, hr⟩ := he
  obtain ⟨A, c, rfl⟩ := hr.shape
  exact ⟨⟨A, _, c, rfl, rfl, hr⟩, hb⟩
theorem allD_any (s0 s1 : Value) (r : Int) (items : List ItemD) (wss : List (List (List Int))) (w : World) (h0 : RItems w (Lt w.heap.size) s0 items) (hw : RIntsss w (Lt w.heap.size) s1 wss) (hl : lightC items.length wss = true) :
    Calls Try.prog 13 #[.agg #[s0, s1, .int .i64 r]] w fun e w' => ∃ A c, e = .returned (.slice A (allW wss).length c) ∧ OwnW w' w.heap.size (.slice A (allW wss).length c) (allW wss) ∧ Below w.heap.size w w' := by
  obtain ⟨A0, c0, rfl, hm0, -⟩ := h0.open_
  refine (All_any A0 _ c0 s1 r wss w hw (rows_of_light hl).1 (rows_of_light hl).2.1).mono ?_
  rintro e w' ⟨v, rfl, ho, hb⟩
  obtain ⟨A, c, rfl⟩ := ho.shape
  exact ⟨A, c, rfl, ho, hb⟩
theorem onlyD_any (s0 s1 sl : Value) (r : Int) (items : List ItemD) (wss : List (List (List Int))) (l : List WantD) (w : World) (h0 : RItems w (Lt w.heap.size) s0 items) (hw : RIntsss w (Lt w.heap.size) s1 wss) (hsl : RWants w (Lt w.heap.size) sl l) (hl : lightC items.length wss = true) :
    Calls Try.prog 10 #[.agg #[s0, s1, .int .i64 r], sl] w fun e w' => ∃ vI vW, e = .returned (.agg #[vI, vW, .int .i64 r]) ∧ Hid (RItems w' (Lt w'.heap.size) vI items) ∧ Hid (RIntsss w' (Lt w'.heap.size) vW (onlyW l wss)) ∧ Below w.heap.size w w' := by
  obtain ⟨g1, g2, g3, g4⟩ := rows_of_light hl
  refine (Only_any s0 s1 sl r items wss l w h0 hw hsl g2 g1 (by omega) g4).mono ?_
  intro e w' h
  unfold OnlyPost at h
  obtain ⟨vI, vW, rfl, h1, h2, h3⟩ := h
  exact ⟨vI, vW, rfl, Lib.hid h1, Lib.hid h2, h3⟩
theorem want_upS {w w' : World} {S : Nat → Prop} {v : Value} {l : List WantD} (h : RWants w (fun b => S b ∧ b < w.heap.size) v l) (hb : Below w.heap.size w w') : RWants w' (fun b => S b ∧ b < w'.heap.size) v l := want_up h hb
def lenAt (w : World) (p : Nat) : Nat := match w.cell? ⟨p, 0, none⟩ with | some (.slice _ n _) => n | _ => 0
/-- what the closure leaves -/
def HiDone (w w' : World) (p2 : Nat) (rows : List (List WantD)) : Prop := ∃ v, w'.heap[p2]? = some (.cells #[v] 47 (0, 0)) ∧ RSl RWants w' (fun b => w.heap.size ≤ b ∧ b < w'.heap.size) v rows ∧ Ch (fun b => b = p2) w w'
theorem hi_done {w w1 w2 wk w4 : World} {p2 Z p0 p1 p3 B0 : Nat} {vO : Value} {us : List Value} {rows L : List (List WantD)} (h12 : w1.heap.size ≤ w2.heap.size) (hZ : Z = w2.heap.size) (hB4 : Below wk.heap.size wk w4) (hC : Ch (fun b => b = p2 ∨ Z ≤ b) w2 wk)
    (h2 : w4.heap[p2]? = some (.cells #[vO] 47 (0, 0))) (hR : RowsH RWants 26 wk Z (fun b => w1.heap.size ≤ b) vO us rows) (hlt : p0 < Z ∧ p1 < Z ∧ p2 < Z ∧ p3 < Z ∧ B0 ≤ Z ∧ w.heap.size ≤ w1.heap.size ∧ w1.heap.size ≤ Z ∧ p2 < w.heap.size) (hL : L = rows) (hw2 : Below w.heap.size w w2) : HiDone w w4 p2 L := by
  subst hL
  have hs := hC.size
  have hs4 := hB4.size
  refine ⟨vO, h2, RSl.stable RWants.stable _ _ _ _ _ _ ((hR.up RWants.stable hB4).reads RWants.stable fun g hg => by have := ((hR.up RWants.stable hB4).lt g hg).1; omega) (Ag.refl _ _) fun b hb => ⟨by omega, hb.2⟩, ?_⟩
  exact ⟨hB4.os.trans (hC.os.trans hw2.os), hB4.tape.trans (hC.tape.trans hw2.tape), hB4.output.trans (hC.output.trans hw2.output), by have := hw2.size; omega, fun b hb hn => by
    have h3 := hw2.size
    rw [hB4.block b (by omega), hC.block b (by omega) (by omega), hw2.block b hb]⟩
theorem hi_push {w w1 w2 wk w5 w6 : World} {p2 Z p0 p1 p3 B0 n c5 : Nat} {A5 AO : Option Addr} {cO : Nat} {v6 : Value} {us : List Value} {rows : List (List WantD)} {l : List WantD} (hC : Ch (fun b => b = p2 ∨ Z ≤ b) w2 wk)
    (hR : RowsH RWants 26 wk Z (fun b => w1.heap.size ≤ b) (.slice AO rows.length cO) us rows) (hlt : p0 < Z ∧ p1 < Z ∧ p2 < Z ∧ p3 < Z ∧ B0 ≤ Z ∧ w.heap.size ≤ w1.heap.size ∧ w1.heap.size ≤ Z ∧ p2 < w.heap.size) (hB5 : Below wk.heap.size wk w5)
    (hr5 : RWants w5 (fun b => (w1.heap.size ≤ b ∧ some b ≠ (Value.slice AO rows.length cO).ownBlock) ∧ b < w5.heap.size) (.slice A5 n c5) l) (ho : w6.ownsRow Z 26 1 v6 (rows.length + 1) (us ++ [.slice A5 n c5]))
    (hg : (w5.alloc (.cells #[.slice A5 n c5] 26)).grownBy w6 (Value.slice AO rows.length cO).ownBlock) (hat : v6.ownBlock = (Value.slice AO rows.length cO).ownBlock ∨ v6.ownBlock = some (w5.alloc (.cells #[.slice A5 n c5] 26)).heap.size) :
    RowsH RWants 26 (w6.setCell ⟨p2, 0, none⟩ v6) Z (fun b => w1.heap.size ≤ b) v6 (us ++ [.slice A5 n c5]) (rows ++ [l]) ∧ Ch (fun b => b = p2 ∨ Z ≤ b) w2 (w6.setCell ⟨p2, 0, none⟩ v6) := by
  have hs5 := hB5.size
  have hRW := hR.up RWants.stable hB5
  have hpu := hRW.push RWants.stable (below_alloc w5 (.cells #[.slice A5 n c5] 26)) (u := .slice A5 n c5) (c := l) (RWants.stable _ _ _ _ _ _ hr5 (fun b hb => Below.heap_alloc _ _ b hb.2) fun b hb => ⟨hb.1.1, by have := hb.2; simp; omega, hb.1.2⟩) ho hg hat
  refine ⟨hpu.keep RWants.stable (fun b hb hS => Below.heap_setCell w6 ⟨p2, 0, none⟩ _ b (by
    show b ≠ p2
    rcases hS with hS | hS
    · omega
    · have := (hpu.lt b hS).1; omega)) (by simp), ?_⟩
  exact (((hC.trans (ch_new hB5 _)).trans (ch_new (below_alloc w5 _) _)).trans ((ch_grown hg).imp fun j _ e => .inr (hRW.lt j e.symm).1)).trans ((ch_set w6 p2 0 _).imp fun j _ e => .inl e)
theorem hi_first {w w1 w5 w6 : World} {p2 Z p0 p1 p3 B0 c5 : Nat} {A5 AO : Option Addr} {nO cO : Nat} {xa xb : Int} {xs : List WantD} (hlt : p0 < Z ∧ p1 < Z ∧ p2 < Z ∧ p3 < Z ∧ B0 ≤ Z ∧ w.heap.size ≤ w1.heap.size ∧ w1.heap.size ≤ Z ∧ p2 < w.heap.size)
    (hr5 : RWants w5 (fun b => (w1.heap.size ≤ b ∧ some b ≠ (Value.slice AO nO cO).ownBlock) ∧ b < w5.heap.size) (.slice A5 (xs.length + 1) c5) ((xa, xb) :: xs)) (hg : (w5.alloc (.cells #[.slice A5 (xs.length + 1) c5] 26)).grownBy w6 (Value.slice AO nO cO).ownBlock) (A6 : Option Addr) (n6 c6 : Nat) :
    ∃ bx ox, A5 = some ⟨bx, ox, none⟩ ∧ ((w6.setCell ⟨p2, 0, none⟩ (.slice A6 n6 c6)).cell? ⟨bx, ox, none⟩ = some (.int .i64 xa)) ∧ ((w6.setCell ⟨p2, 0, none⟩ (.slice A6 n6 c6)).cell? ⟨bx, ox + 1, none⟩ = some (.int .i64 xb)) ∧ bx ≠ p2 := by
  obtain ⟨A, c, e, _, _, hat⟩ := hr5
  simp only [Value.slice.injEq] at e
  obtain ⟨rfl, -, rfl⟩ := e
  obtain ⟨b, off, rfl, hb, hc⟩ := hat (by simp)
  have hb2 : b ≠ p2 := by have := hb.1.1; omega
  have hw : (w6.setCell ⟨p2, 0, none⟩ (.slice A6 n6 c6)).heap[b]? = w5.heap[b]? := by
    rw [Below.heap_setCell w6 ⟨p2, 0, none⟩ _ b hb2, hg.block b (by have := hb.2; simp; omega) hb.1.2, Below.heap_alloc _ _ b hb.2]
  have h0 := hc 0 (by simp) 0 (.int .i64 xa) rfl
  have h1 := hc 0 (by simp) 1 (.int .i64 xb) rfl
  refine ⟨b, off, rfl, ?_, ?_, hb2⟩
  · rw [World.cell?_of_block (w := w5) hw]; simpa using h0
  · rw [World.cell?_of_block (w := w5) hw]; simpa using h1
theorem hi_rd {w w1 wk w5 w6 : World} {p2 Z p0 p1 p3 B0 : Nat} {AO : Option Addr} {nO cO : Nat} {v : Value} {o : Obj} {l : List WantD} (hlt : p0 < Z ∧ p1 < Z ∧ p2 < Z ∧ p3 < Z ∧ B0 ≤ Z ∧ w.heap.size ≤ w1.heap.size ∧ w1.heap.size ≤ Z ∧ p2 < w.heap.size) (hB5 : Below wk.heap.size wk w5)
    (hr : RWants wk (fun b => (w1.heap.size ≤ b ∧ some b ≠ (Value.slice AO nO cO).ownBlock) ∧ b < wk.heap.size) v l) (hg : (w5.alloc o).grownBy w6 (Value.slice AO nO cO).ownBlock) (A6 : Option Addr) (n6 c6 : Nat) :
    RWants (w6.setCell ⟨p2, 0, none⟩ (.slice A6 n6 c6)) (Lt (w6.setCell ⟨p2, 0, none⟩ (.slice A6 n6 c6)).heap.size) v l := by
  have h5 := hB5.size
  have h6 := hg.size
  simp at h6
  refine RWants.stable _ _ _ _ _ _ hr (fun b hb => ?_) fun b hb => ?_
  · rw [Below.heap_setCell w6 ⟨p2, 0, none⟩ _ b (by show b ≠ p2; omega), hg.block b (by simp; omega) hb.1.2, Below.heap_alloc _ _ b (by omega)]
    exact hB5.block b hb.2
  · have : b < w6.heap.size := by omega
    simpa using this
set_option maxRecDepth 100000 in
set_option maxHeartbeats 8000000 in
theorem hits1_any (p0 p1 p2 p3 B0 : Nat) (vI vW : Value) (r : Int) (lim : Nat) (items : List ItemD) (wss : List (List (List Int))) (w : World)
    (hE : HiEnv w B0 p0 p1 p2 p3 vI vW r 1000 (lim : Int) items wss (.slice none 0 0)) (hl : lightC items.length wss = true) (hm : mayN items.length r wss = 0) (hlim : lim ≤ 5) :
    Calls Try.prog 32 #[.pointer (some ⟨p0, 0, none⟩), .pointer (some ⟨p1, 0, none⟩), .pointer (some ⟨p2, 0, none⟩), .pointer (some ⟨p3, 0, none⟩)] w fun e w' =>
      (blamedB items wss r = false ∧ e = .returned (.int .i64 1) ∧ Below w.heap.size w w') ∨ (blamedB items wss r = true ∧ e = .returned (.int .i64 2) ∧ HiDone w w' p2 (hitsR (fun m => blamedB items (onlyW m wss) r) lim (allW wss))) := by
  obtain ⟨⟨c0, c1, c2⟩, c3, c4, c5, c6⟩ := hE.cells
  have HE := Lib.hid hE
  have HL := Lib.hid hl
  have HM := Lib.hid hm
  have HIb := Lib.hid (isBlamed_sure hl hm vI vW w hE.reads.1 hE.reads.2)
  clear hE hl hm
  cases hbl : blamedB items wss r with
  | false =>
    rw [hbl] at HIb
    clear hbl
    go_enter Try.func32, Try.ntmps32
    go_wp2_with (go_at_call 28; with_reducible refine HIb.out.mono ?_; rintro e w1 ⟨rfl, b1⟩; have HB1 := Lib.hid b1; clear b1)
    go_ret
    exact .inl ⟨trivial, rfl, HB1.out⟩
  | true =>
    rw [hbl] at HIb
    clear hbl
    obtain ⟨B, hB⟩ : ∃ B : List WantD → Bool, B = fun m => blamedB items (onlyW m wss) r := ⟨_, rfl⟩
    rw [← hB]
    have HBe := Lib.hid (fun m => (show B m = blamedB items (onlyW m wss) r by rw [hB]))
    have HBf := Lib.hid (show (fun m => blamedB items (onlyW m wss) r) = B from hB.symm)
    clear hB
    go_enter Try.func32, Try.ntmps32
    go_wp2_with (first
      | (go_at_call 28; with_reducible refine HIb.out.mono ?_; rintro e w1 ⟨rfl, b1⟩; go_loud (have HB1 := Lib.hid b1; have HE1 := Lib.hid (HE.out.up b1); obtain ⟨⟨d0, d1, d2⟩, d3, d4, d5, d6⟩ := HE1.out.cells; clear b1))
      | (go_at_call 13; go_loud (with_reducible refine (allD_any _ _ r items wss w1 HE1.out.reads.1 HE1.out.reads.2 HL.out).mono ?_; rintro e w2 ⟨A2, c2', rfl, ho, b2⟩; have HO2 := Lib.hid ho; have HB2 := Lib.hid (HB1.out.trans (b2.mono HB1.out.size)); have HS12 := Lib.hid b2.size; have HE2 := Lib.hid (HE1.out.up b2); clear b2 ho)))
    clear c0 c1 c2 c3 c4 c5 c6 d0 d1 d2 d3 d4 d5 d6
    obtain ⟨Z, hZ⟩ : ∃ Z, Z = w2.heap.size := ⟨_, rfl⟩
    have HZ := Lib.hid hZ
    have HLt := Lib.hid (show p0 < Z ∧ p1 < Z ∧ p2 < Z ∧ p3 < Z ∧ B0 ≤ Z ∧ w.heap.size ≤ w1.heap.size ∧ w1.heap.size ≤ Z ∧ p2 < w.heap.size by
      have h1 := HE1.out.lt
      have h2 := HE2.out.lt
      have h3 := HE.out.lt
      have h4 := HB1.out.size
      have h5 := HS12.out
      omega)
    clear hZ
    go_loopw [5] (fun lv wr => ∃ (left : List WantD) (vO : Value) (us : List Value) (rows : List (List WantD)), Hid (RWants wr (fun b => (w1.heap.size ≤ b ∧ some b ≠ vO.ownBlock) ∧ b < wr.heap.size) lv left) ∧ Hid (left.length ≤ 7000) ∧ Hid (HiEnv wr B0 p0 p1 p2 p3 vI vW r 1000 (lim : Int) items wss vO) ∧ Hid (RowsH RWants 26 wr Z (fun b => w1.heap.size ≤ b) vO us rows) ∧ Hid (rows ++ hitsR B (lim - rows.length) left = hitsR B lim (allW wss)) ∧ Hid (rows.length ≤ lim) ∧ Hid (Ch (fun b => b = p2 ∨ Z ≤ b) w2 wr)) (fun _ wr => lim - lenAt wr p2)
    case atStart => exact ⟨allW wss, _, [], [], Lib.hid (RWants.stable.sub HO2.out.reads fun b hb => ⟨⟨hb.1, by simp [Value.ownBlock]⟩, hb.2⟩), Lib.hid (all_le HL.out), HE2, Lib.hid (RowsH.nil _ _ _ _ _), Lib.hid (by simp), Lib.hid (Nat.zero_le _), Lib.hid (Ch.refl _ _)⟩
    case round =>
      obtain ⟨wk, hwk⟩ : ∃ w0 : World, w0 = wr := ⟨_, rfl⟩
      rw [← hwk] at hrel ⊢
      clear hwk
      obtain ⟨left, vO, us, rows, HF, HFl, HEk, HR, HH, HRl, HC⟩ := hrel
      obtain ⟨AF, cF, hvF⟩ := HF.out.shape
      subst hvF
      obtain ⟨AO, cO, hvO⟩ := own_shape HR.out.own
      subst hvO
      obtain ⟨⟨d0, d1, d2⟩, d3, d4, d5, d6⟩ := HEk.out.cells
      obtain ⟨k0, k1, k2, k3, k4⟩ := HEk.out.lt
      have hle := HRl.out
      have hlenk : lenAt wk p2 = rows.length := by unfold lenAt; rw [d4]
      have Hlenk := Lib.hid hlenk
      clear hlenk
      by_cases hlt : rows.length < lim
      · have HOn := Lib.hid (fun (V : World) (h : Below wk.heap.size wk V) => onlyD_any vI vW (.slice AF left.length cF) r items wss left V (HEk.out.up h).reads.1 (HEk.out.up h).reads.2 (RWants.stable.sub (want_upS HF.out h) fun b hb => hb.2) HL.out)
        have hd : decide (rows.length < lim) = true := decide_eq_true hlt
        go_wp2_with fail
        go_region_held3 (fun w' => (w'.cell? ⟨p0, 0, none⟩ = some vI ∧ w'.cell? ⟨p0, 1, none⟩ = some vW ∧ w'.cell? ⟨p0, 2, none⟩ = some (.int .i64 r)) ∧ w'.cell? ⟨p1, 0, none⟩ = some (.int .i64 1000) ∧ w'.cell? ⟨p2, 0, none⟩ = some (.slice AO rows.length cO) ∧ w'.cell? ⟨p3, 0, none⟩ = some (.int .i64 (lim : Int)))
          (first | go_keep)
          (first
            | (go_at_call 10; go_loud (with_reducible refine (HOn.out _ (Below.refl _ _).drew).mono ?_); rintro e w3 ⟨vI', vW', rfl, HI3, HW3, hb⟩; have HB3 := Lib.hid (show Below wk.heap.size wk w3 from (Below.refl _ _).drew.trans hb); have HE3 := Lib.hid (HEk.out.up HB3.out); obtain ⟨⟨t0, t1, t2⟩, t3, t4, t5, t6⟩ := HE3.out.cells; clear hb)
            | (go_at_call 28; go_loud (with_reducible refine (isBlamed_sure (only_light left HL.out) (only_may left HM.out) vI' vW' w3 HI3.out HW3.out).mono ?_); rintro e w4 ⟨rfl, hb⟩; rw [← HBe.out]; have HB4 := Lib.hid (HB3.out.trans (hb.mono HB3.out.size)); have HE4 := Lib.hid (HE3.out.up hb); obtain ⟨⟨y0, y1, y2⟩, y3, y4, y5, y6⟩ := HE4.out.cells; clear hb))
        cases hbl : B left with
        | false =>
          have Hfin := Lib.hid (show hitsR B lim (allW wss) = rows by rw [← HH.out, hitsR_no (.inr hbl), List.append_nil])
          clear hbl
          go_wp2
          go_ret
          exact .inr ⟨trivial, rfl, hi_done HS12.out HZ.out HB4.out HC.out HE4.out.h2 HR.out HLt.out Hfin.out HB2.out⟩
        | true =>
          have Hbt := Lib.hid hbl
          clear hbl
          have HLe := Lib.hid (least_sure HL.out HM.out vI vW (.slice AF left.length cF) left (fun b => w1.heap.size ≤ b ∧ some b ≠ (Value.slice AO rows.length cO).ownBlock) w4 (fun b hb => ⟨by have := HLt.out; have := HB4.out.size; have := HC.out.size; have := HZ.out; omega, fun e => by have := (HR.out.lt b e.symm).2; have := HB4.out.size; omega⟩) HE4.out.reads.1 HE4.out.reads.2 (want_upS HF.out HB4.out) HFl.out)
          rw [HBf.out] at HLe
          obtain ⟨rw, hrw⟩ : ∃ rw, rw = leastL B left left := ⟨_, rfl⟩
          rw [← hrw] at HLe
          have Hrw := Lib.hid hrw.symm
          clear hrw d0 d1 d2 d3 d4 d5 d6 t0 t1 t2 t3 t4 t5 t6
          cases rw with
          | nil =>
            have Hfin := Lib.hid (show hitsR B lim (allW wss) = rows ++ [[]] by rw [← HH.out, hitsR_end (by omega) Hbt.out Hrw.out])
            go_wp2_with (first
              | (go_at_call 29; go_loud (with_reducible refine HLe.out.mono ?_; rintro e w5 ⟨⟨A5, n5, c5, hn5, rfl, hr5⟩, hb⟩; (try simp only [List.length_cons] at hn5); (try simp only [List.length_nil] at hn5); subst hn5; have HR5 := Lib.hid hr5; have HE5 := Lib.hid (HE4.out.up hb); have HB5 := Lib.hid (HB4.out.trans (hb.mono HB4.out.size)); have HRW := Lib.hid (HR.out.up RWants.stable HB5.out); have HO5 := Lib.hid (show w5.ownsRow Z 26 1 (.slice AO rows.length cO) rows.length us from HRW.out.own); obtain ⟨⟨x0, x1, x2⟩, x3, x4, x5, x6⟩ := HE5.out.cells; have hZ5 : Z ≤ w5.heap.size := (by have := HC.out.size; have := HB5.out.size; have := HZ.out; omega); have hp5 : p2 < w5.heap.size := HE5.out.lt.2.2.1; clear hb hr5))
              | (at_builtin; go_loud (refine wpList_push rfl _ _ _ rfl eWantRow (v := .slice AO rows.length cO) rfl (HO5.out.alloc _) w5.heap.size (.slice A5 0 c5) rfl (by simp [go_sem]) rfl (by omega) (by simp; omega) ?_; intro v6 w6 hown6 hg6 hat6; obtain ⟨A6, c6, rfl⟩ := own_shape hown6; have HE6 := Lib.hid ((HE5.out.up (below_alloc w5 (.cells #[.slice A5 0 c5] 26))).keep (Bz := Z) ⟨HLt.out.1, HLt.out.2.1, HLt.out.2.2.1, HLt.out.2.2.2.1, HLt.out.2.2.2.2.1⟩ (w' := w6) (fun b hb => hg6.block b (by simp; omega) (fun e => by have := (HRW.out.lt b e.symm).1; omega))); have HP6 := Lib.hid (hi_push HC.out HR.out HLt.out HB5.out HR5.out hown6 hg6 hat6); have HG6 := Lib.hid hg6; obtain ⟨⟨y0', y1', y2'⟩, y3', y4', y5', y6'⟩ := HE6.out.cells; clear hown6 hg6 hat6)))
            go_ret
            have hE7 := HE6.out.set (.slice A6 (rows.length + 1) c6)
            exact .inr ⟨trivial, rfl, hi_done HS12.out HZ.out (Below.refl _ _) HP6.out.2 hE7.h2 HP6.out.1 HLt.out Hfin.out HB2.out⟩
          | cons x xs =>
            have Hfin := Lib.hid (show (rows ++ [x :: xs]) ++ hitsR B (lim - (rows ++ [x :: xs]).length) (withoutW left x) = hitsR B lim (allW wss) by rw [← HH.out, hitsR_cons (by omega) Hbt.out Hrw.out, List.append_assoc, List.singleton_append, List.length_append, List.length_singleton, show lim - (rows.length + 1) = lim - rows.length - 1 by omega])
            obtain ⟨xa, xb⟩ := x
            go_wp2_with (first
              | (go_at_call 29; go_loud (with_reducible refine HLe.out.mono ?_; rintro e w5 ⟨⟨A5, n5, c5, hn5, rfl, hr5⟩, hb⟩; (try simp only [List.length_cons] at hn5); (try simp only [List.length_nil] at hn5); subst hn5; have HR5 := Lib.hid hr5; have HE5 := Lib.hid (HE4.out.up hb); have HB5 := Lib.hid (HB4.out.trans (hb.mono HB4.out.size)); have HRW := Lib.hid (HR.out.up RWants.stable HB5.out); have HO5 := Lib.hid (show w5.ownsRow Z 26 1 (.slice AO rows.length cO) rows.length us from HRW.out.own); obtain ⟨⟨x0, x1, x2⟩, x3, x4, x5, x6⟩ := HE5.out.cells; have hZ5 : Z ≤ w5.heap.size := (by have := HC.out.size; have := HB5.out.size; have := HZ.out; omega); have hp5 : p2 < w5.heap.size := HE5.out.lt.2.2.1; clear hb hr5))
              | (at_builtin; go_loud (refine wpList_push rfl _ _ _ rfl eWantRow (v := .slice AO rows.length cO) rfl (HO5.out.alloc _) w5.heap.size (.slice A5 (xs.length + 1) c5) rfl (by simp [go_sem]) rfl (by omega) (by simp; omega) ?_; intro v6 w6 hown6 hg6 hat6; obtain ⟨A6, c6, rfl⟩ := own_shape hown6; have HE6 := Lib.hid ((HE5.out.up (below_alloc w5 (.cells #[.slice A5 (xs.length + 1) c5] 26))).keep (Bz := Z) ⟨HLt.out.1, HLt.out.2.1, HLt.out.2.2.1, HLt.out.2.2.2.1, HLt.out.2.2.2.2.1⟩ (w' := w6) (fun b hb => hg6.block b (by simp; omega) (fun e => by have := (HRW.out.lt b e.symm).1; omega))); have HP6 := Lib.hid (hi_push HC.out HR.out HLt.out HB5.out HR5.out hown6 hg6 hat6); have HG6 := Lib.hid hg6; obtain ⟨⟨y0', y1', y2'⟩, y3', y4', y5', y6'⟩ := HE6.out.cells; obtain ⟨bx, ox, hA5, hbx1, hbx2, hbx3⟩ := hi_first HLt.out HR5.out hg6 A6 (rows.length + 1) c6; subst hA5; clear hown6 hg6 hat6)))
            obtain ⟨w7, hw7⟩ : ∃ w7, w7 = w6.setCell ⟨p2, 0, none⟩ (.slice A6 (rows.length + 1) c6) := ⟨_, rfl⟩
            have HE7 := Lib.hid (HE6.out.set (.slice A6 (rows.length + 1) c6))
            have HRF := Lib.hid (hi_rd HLt.out HB5.out HF.out HG6.out A6 (rows.length + 1) c6)
            rw [← hw7] at HE7 HP6 HRF ⊢
            clear hw7 hbx1 hbx2 hbx3
            refine (without_any (.slice AF left.length cF) left (xa, xb) w7 HRF.out (by have := HFl.out; omega)).mono ?_
            rintro e w8 ⟨v8, rfl, ho8, b8⟩
            obtain ⟨A8, c8, rfl⟩ := ho8.shape
            have HR8 := Lib.hid (show RWants w8 (fun b => (w1.heap.size ≤ b ∧ some b ≠ (Value.slice A6 (rows.length + 1) c6).ownBlock) ∧ b < w8.heap.size) _ _ from RWants.stable.sub ho8.reads fun b hb => ⟨⟨by have := HLt.out; have := hb.1; have := HP6.out.2.size; have := HZ.out; omega, fun e => by have := (HP6.out.1.lt b e.symm).2; have := hb.1; omega⟩, hb.2⟩)
            have HE8 := Lib.hid (HE7.out.up b8)
            have HRW8 := Lib.hid (HP6.out.1.up RWants.stable b8)
            have HC8 := Lib.hid (HP6.out.2.trans (ch_new b8 _))
            have hl8 : lenAt w8 p2 = rows.length + 1 := by unfold lenAt; rw [HE8.out.cells.2.2.1]
            have Hl8 := Lib.hid hl8
            clear ho8 b8 hl8
            go_wp2
            go_roundw
            case rel => exact ⟨_, _, _, rows ++ [(xa, xb) :: xs], HR8, Lib.hid (Nat.le_trans (List.length_filter_le _ _) HFl.out), HE8, HRW8, Hfin, Lib.hid (by simp; omega), HC8⟩
            case measure => rw [Hl8.out, Hlenk.out]; omega
      · -- THE END
        have hge : rows.length = lim := by omega
        have hd : decide (rows.length < lim) = false := decide_eq_false hlt
        have Hfin := Lib.hid (show hitsR B lim (allW wss) = rows by rw [← HH.out, hitsR_no (.inl (by omega)), List.append_nil])
        clear hge
        go_wp2_with fail
        go_quiet (fail)
        go_wp2
        go_ret
        exact .inr ⟨trivial, rfl, hi_done HS12.out HZ.out (below_drewN (Below.refl _ _) _) HC.out (HEk.out.up (below_drewN (Below.refl _ _) _)).h2 HR.out HLt.out Hfin.out HB2.out⟩
end Go.Proofs.Ytcebafeaikipmaa

namespace Go.Proofs.Ytcebafeaikipmaa
open Go.RowKit
open S15 (Ch Kp ch_new ch_set kp_new ch_below)

theorem cf32 : ∀ (cap : Array Value) (w : World), (callFunc 32 cap).run Try.prog w = .ok (.enter 32 cap) w := fun cap w => callFunc_run Try.func32 rfl rfl cap w
/-- what Hits tells -/
def HitsPost (items : List ItemD) (wss : List (List (List Int))) (r lim : Int) (w : World) (e : Ending) (w' : World) : Prop :=
  (((mayN items.length r wss ≠ 0 ∨ lim < 0) ∧ ∃ A c, e = .returned (.tuple #[.slice A 0 c, .int .i64 0, .int .i64 1])) ∨ (mayN items.length r wss = 0 ∧ 0 ≤ lim ∧ blamedB items wss r = false ∧ ∃ A c, e = .returned (.tuple #[.slice A 0 c, .int .i64 1, .int .i64 0])) ∨
    (mayN items.length r wss = 0 ∧ 0 ≤ lim ∧ blamedB items wss r = true ∧ ∃ A n c, n = (hitsR (fun m => blamedB items (onlyW m wss) r) lim.toNat (allW wss)).length ∧ e = .returned (.tuple #[.slice A n c, .int .i64 2, .int .i64 0]) ∧ RSl RWants w' (Lt w'.heap.size) (.slice A n c) (hitsR (fun m => blamedB items (onlyW m wss) r) lim.toNat (allW wss)))) ∧ Below w.heap.size w w'
set_option maxRecDepth 100000 in
set_option maxHeartbeats 8000000 in
theorem hits_any (s0 s1 : Value) (r lim : Int) (items : List ItemD) (wss : List (List (List Int))) (w : World) (h0 : RItems w (Lt w.heap.size) s0 items) (hw : RIntsss w (Lt w.heap.size) s1 wss) (hl : lightC items.length wss = true) (hlim : lim ≤ 5) :
    Calls Try.prog 20 #[.agg #[s0, s1, .int .i64 r], .int .i64 1000, .int .i64 lim] w (HitsPost items wss r lim w) := by
  obtain ⟨A0, c0, rfl, hm0, -⟩ := h0.open_
  obtain ⟨A1, c1, rfl, hm1, -⟩ := hw.open_
  have HL := Lib.hid hl
  obtain ⟨w1, hw1⟩ : ∃ w1, w1 = (((w.alloc (.cells #[.slice A0 items.length c0, .slice A1 wss.length c1, .int .i64 r] 25)).alloc (.cells #[.int .i64 1000] 3)).alloc (.cells #[.int .i64 lim] 3)).alloc (.cells #[.slice none 0 0] 47) := ⟨_, rfl⟩
  have Hb0 := Lib.hid (show Below w.heap.size w w1 by rw [hw1]; exact ((((below_alloc w _).alloc (by simp) _).alloc (by simp; omega) _).alloc (by simp; omega) _))
  have hs1 : w1.heap.size = w.heap.size + 4 := by rw [hw1]; simp
  have e1 := heap_alloc_new (w.alloc (.cells #[.slice A0 items.length c0, .slice A1 wss.length c1, .int .i64 r] 25)) (.cells #[.int .i64 1000] 3)
  rw [World.size_alloc] at e1
  have HEn := Lib.hid (show HiEnv w1 w.heap.size w.heap.size (w.heap.size + 1) (w.heap.size + 3) (w.heap.size + 2) (.slice A0 items.length c0) (.slice A1 wss.length c1) r 1000 lim items wss (.slice none 0 0) by
    refine ⟨?_, ?_, ?_, ?_, by omega, by omega, by omega, by omega, ?_, ?_⟩
    · rw [hw1]; exact heap_at_alloc (heap_at_alloc (heap_at_alloc (heap_alloc_new w _)))
    · rw [hw1]; exact heap_at_alloc (heap_at_alloc e1)
    · rw [hw1]; exact heap_new (by simp)
    · rw [hw1]; exact heap_at_alloc (heap_new (by simp))
    · exact RItems.stable.agree h0 (fun b hb => Hb0.out.block b hb)
    · exact RIntsss.stable.agree hw (fun b hb => Hb0.out.block b hb))
  have HE := Lib.hid (Encode_any (.slice A0 items.length c0) (.slice A1 wss.length c1) r items wss w1 HEn.out.reads.1 HEn.out.reads.2 (lightC_lightW hl))
  have Hw1 := Lib.hid hw1
  have Hs1 := Lib.hid hs1
  obtain ⟨⟨d0, d1, d2⟩, d3, d4, d5, d6⟩ := HEn.out.cells
  have hmf : ∀ (fn : Fn) (first cap : Array Value) (w : World), (Instr.makeFunc fn first cap).run Try.prog w = .ok (.func fn first cap) w := fun _ _ _ _ => rfl
  clear h0 hw hl hw1 e1
  by_cases hmay : mayN items.length r wss = 0
  case neg =>
    have henc : encR items wss r = (0, [], 1) := by unfold encR; rw [if_pos hmay, light_may27 HL.out hmay]; rfl
    have Henc := Lib.hid henc
    have Hmay := Lib.hid hmay
    clear henc hmay
    go_enter Try.func20, Try.ntmps20
    go_upto_region 1 with fail
    rw [show w.heap.size + 1 + 1 + 1 = w.heap.size + 3 from rfl, show w.heap.size + 1 + 1 = w.heap.size + 2 from rfl, ← Hw1.out]
    obtain ⟨P, hP⟩ : ∃ P, P = w.heap.size + 3 := ⟨_, rfl⟩
    rw [← hP] at d4 d6 HEn ⊢
    have HPl := Lib.hid (show w.heap.size ≤ P by omega)
    clear hP
    go_wp2_with (go_at_call 31; with_reducible refine HE.out.mono ?_; rintro e w2 hq; go_loud (unfold EncodePost at hq; rw [Henc.out] at hq; obtain ⟨s, rfl, hs, b2⟩ := hq; obtain ⟨As, cs, rfl⟩ := hs.shape; have HB2 := Lib.hid (Hb0.out.trans (b2.mono Hb0.out.size)); have HE2 := Lib.hid (HEn.out.up b2); obtain ⟨-, -, g4, -, g6⟩ := HE2.out.cells; have hlt := HE2.out.lt.2.2.1; clear hs b2))
    refine bodyPost_ret (v := .tuple #[.slice none 0 0, .int .i64 0, .int .i64 1]) (by simp [results, Try.results20, go_sem, g4, hlt]) rfl ?_
    exact ⟨.inl ⟨.inl Hmay.out, none, 0, rfl⟩, (HB2.out.setCell (p := ⟨P, 0, none⟩) HPl.out _).alloc (by simpa using HB2.out.size) _⟩
  case pos =>
    have hcl := cls_light hmay HL.out
    have henc : encR items wss r = ((items.length : Int), allCls items wss r, 0) := by unfold encR; rw [if_neg (by simp [hmay]), if_neg (by have := (lits_all hcl).1; omega)]
    have Henc := Lib.hid henc
    have Hmay := Lib.hid hmay
    clear henc hmay hcl
    go_enter Try.func20, Try.ntmps20
    go_upto_region 1 with fail
    rw [show w.heap.size + 1 + 1 + 1 = w.heap.size + 3 from rfl, show w.heap.size + 1 + 1 = w.heap.size + 2 from rfl, ← Hw1.out]
    obtain ⟨P, hP⟩ : ∃ P, P = w.heap.size + 3 := ⟨_, rfl⟩
    obtain ⟨P3, hP3⟩ : ∃ P3, P3 = w.heap.size + 2 := ⟨_, rfl⟩
    have HPl := Lib.hid (show w.heap.size ≤ P ∧ P < w1.heap.size by omega)
    rw [← hP] at d4 d6 HEn ⊢
    rw [← hP3] at d5 HEn ⊢
    clear hP hP3
    rcases Int.lt_or_le lim 0 with hneg | hpos
    · go_wp2_with (go_at_call 31; with_reducible refine HE.out.mono ?_; rintro e w2 hq; go_loud (unfold EncodePost at hq; rw [Henc.out] at hq; obtain ⟨s, rfl, hs, b2⟩ := hq; obtain ⟨As, cs, rfl⟩ := hs.shape; have HB2 := Lib.hid (Hb0.out.trans (b2.mono Hb0.out.size)); have HE2 := Lib.hid (HEn.out.up b2); obtain ⟨-, -, g4, g5, g6⟩ := HE2.out.cells; have hlt := HE2.out.lt.2.2.1; have hlt3 := HE2.out.lt.2.2.2.1; clear hs b2))
      refine bodyPost_ret (v := .tuple #[.slice none 0 0, .int .i64 0, .int .i64 1]) (by simp [results, Try.results20, go_sem, g4, hlt]) rfl ?_
      exact ⟨.inl ⟨.inr hneg, none, 0, rfl⟩, (HB2.out.setCell (p := ⟨P, 0, none⟩) HPl.out.1 _).alloc (by simpa using HB2.out.size) _⟩
    · obtain ⟨ln, rfl⟩ := Int.eq_ofNat_of_zero_le hpos
      go_wp2_with (go_at_call 31; with_reducible refine HE.out.mono ?_; rintro e w2 hq; go_loud (unfold EncodePost at hq; rw [Henc.out] at hq; obtain ⟨s, rfl, hs, b2⟩ := hq; obtain ⟨As, cs, rfl⟩ := hs.shape; have HB2 := Lib.hid (Hb0.out.trans (b2.mono Hb0.out.size)); have HE2 := Lib.hid (HEn.out.up b2); obtain ⟨-, -, g4, g5, g6⟩ := HE2.out.cells; have hlt := HE2.out.lt.2.2.1; have hlt3 := HE2.out.lt.2.2.2.1; clear hs b2))
      obtain ⟨wg, hwg⟩ : ∃ wg, wg = w2.alloc (.cells #[.int .i64 (items.length : Int), .slice As (allCls items wss r).length cs] 61) := ⟨_, rfl⟩
      have HBg := Lib.hid (show Below w.heap.size w wg by rw [hwg]; exact HB2.out.alloc HB2.out.size _)
      have HEg := Lib.hid (show HiEnv wg w.heap.size w.heap.size (w.heap.size + 1) P P3 (.slice A0 items.length c0) (.slice A1 wss.length c1) r 1000 (ln : Int) items wss (.slice none 0 0) by rw [hwg]; exact HE2.out.up (below_alloc _ _))
      rw [← hwg]
      clear hwg
      have hltg := HEg.out.lt.2.2.1
      obtain ⟨rows, hrows⟩ : ∃ rows, rows = hitsR (fun m => blamedB items (onlyW m wss) r) ln (allW wss) := ⟨_, rfl⟩
      have HG : Hid (Calls Try.prog 26 #[.func (.func 32) #[] #[.pointer (some ⟨w.heap.size, 0, none⟩), .pointer (some ⟨w.heap.size + 1, 0, none⟩), .pointer (some ⟨P, 0, none⟩), .pointer (some ⟨P3, 0, none⟩)]] wg fun e w' => Below w.heap.size w w' ∧ ∃ v, w'.heap[P]? = some (.cells #[v] 47 (0, 0)) ∧
          ((blamedB items wss r = false ∧ e = .returned (.tuple #[.int .i64 1, .int .i64 0])) ∨ (blamedB items wss r = true ∧ e = .returned (.tuple #[.int .i64 2, .int .i64 0]) ∧ RSl RWants w' (fun b => wg.heap.size ≤ b ∧ b < w'.heap.size) v rows))) := by
        have HO1 := fun (V : World) (h : Below wg.heap.size wg V) => hits1_any w.heap.size (w.heap.size + 1) P P3 w.heap.size _ _ r ln items wss V (HEg.out.up h) HL.out Hmay.out (by omega)
        rw [← hrows] at HO1
        have hPle := HPl.out.1
        cases hbl : blamedB items wss r with
        | false =>
          refine (guard_ok 32 _ wg 1 (fun w3 => Below wg.heap.size wg w3) (cf32 _) (fun w3 hb hz hen => ?_)).mono ?_
          · refine (HO1 w3 hb).mono ?_
            rintro e w4 (⟨-, rfl, b4⟩ | ⟨h, -⟩)
            · exact ⟨rfl, hen.kp (kp_new b4 _) (kp_new b4 _), hb.trans (b4.mono hb.size)⟩
            · rw [hbl] at h; cases h
          · rintro e w4 ⟨rfl, w3, hP, hC⟩
            have hb4 : Below wg.heap.size wg w4 := hP.trans (hC.below (fun i hi => by omega) hP.size)
            exact ⟨HBg.out.trans (hb4.mono HBg.out.size), _, (hb4.block _ hltg).trans HEg.out.h2, .inl ⟨rfl, rfl⟩⟩
        | true =>
          refine (guard_ok 32 _ wg 2 (fun w4 => ∃ v, w4.heap[P]? = some (.cells #[v] 47 (0, 0)) ∧ RSl RWants w4 (fun b => wg.heap.size + 2 ≤ b ∧ b < w4.heap.size) v rows ∧ Below P wg w4 ∧ wg.heap.size + 2 ≤ w4.heap.size) (cf32 _) (fun w3 hb hz hen => ?_)).mono ?_
          · refine (HO1 w3 hb).mono ?_
            rintro e w4 (⟨h, -⟩ | ⟨-, rfl, v, h1, h2, h3⟩)
            · rw [hbl] at h; cases h
            · refine ⟨rfl, hen.kp (h3.kp (by omega)) (h3.kp (by omega)), v, h1, ?_, ?_, ?_⟩
              · rw [hz] at h2; exact h2
              · exact (hb.mono (by omega)).trans (h3.below (fun i hi => by omega) (by omega))
              · have := h3.size; omega
          · rintro e w4 ⟨rfl, w3, ⟨v, h1, h2, h3, h4⟩, hC⟩
            refine ⟨HBg.out.trans ((h3.trans (hC.below (B := P) (fun i hi => by omega) (by omega))).mono hPle), v, (hC.block _ (by omega) (by omega)).trans h1, .inr ⟨rfl, rfl, ?_⟩⟩
            exact RSl.stable RWants.stable _ _ _ _ _ _ h2 (fun b hb => hC.block b hb.2 (by omega)) fun b hb => ⟨by omega, Nat.lt_of_lt_of_le hb.2 hC.size⟩
      have Hrows := Lib.hid hrows
      have Hpos := Lib.hid hpos
      clear hrows hmf d0 d1 d2 d3 d4 d5 d6 g4 g5 g6 hlt hlt3 hpos
      refine HG.out.mono ?_
      rintro e w4 ⟨hb, v, hv, ⟨hbl, rfl⟩ | ⟨hbl, rfl, hr⟩⟩
      · have hc' : w4.cell? ⟨P, 0, none⟩ = some v := cell_of_row _ _ 0 _ _ _ hv
        have hf := frozen_of_row w4 P 0 _ _ hv
        have Hb := Lib.hid hb
        have Hbl := Lib.hid hbl
        clear hv hb hbl HG
        go_wp2
        refine bodyPost_ret (v := .tuple #[.slice none 0 0, .int .i64 1, .int .i64 0]) (by simp [results, Try.results20, go_sem, hc']) rfl ?_
        exact ⟨.inr (.inl ⟨Hmay.out, Hpos.out, Hbl.out, none, 0, rfl⟩), (Hb.out.setCell (p := ⟨P, 0, none⟩) HPl.out.1 _).setCell (p := ⟨P, 0, none⟩) HPl.out.1 _⟩
      · obtain ⟨AV, cV, rfl⟩ := hr.shape
        have hc' : w4.cell? ⟨P, 0, none⟩ = some (.slice AV rows.length cV) := cell_of_row _ _ 0 _ _ _ hv
        have hf := frozen_of_row w4 P 0 _ _ hv
        have Hb := Lib.hid hb
        have Hbl := Lib.hid hbl
        have Hr := Lib.hid hr
        clear hv hb hbl HG hr
        go_wp2
        refine bodyPost_ret (v := .tuple #[.slice AV rows.length cV, .int .i64 2, .int .i64 0]) (by simp [results, Try.results20, go_sem, hc']) rfl ?_
        refine ⟨.inr (.inr ⟨Hmay.out, Hpos.out, Hbl.out, AV, _, cV, ?_, rfl, ?_⟩), Hb.out.setCell (p := ⟨P, 0, none⟩) HPl.out.1 _⟩
        · rw [Int.toNat_natCast, Hrows.out]
        · rw [Int.toNat_natCast, ← Hrows.out]
          exact RSl.stable RWants.stable _ _ _ _ _ _ Hr.out (fun b hb => Below.heap_setCell w4 ⟨P, 0, none⟩ _ b (by show b ≠ P; have := hb.1; omega)) fun b hb => by simpa using hb.2
end Go.Proofs.Ytcebafeaikipmaa
