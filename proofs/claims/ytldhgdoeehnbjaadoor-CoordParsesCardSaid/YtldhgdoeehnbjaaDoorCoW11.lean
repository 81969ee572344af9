/- projects, parsed. (Written by mkCo11.py.) -/
import Derived.Test.YtldhgdoeehnbjaaDoorCoD3
namespace Go.Proofs.YtldhgdoeehnbjaaDoor
open Go.RowKit
open C01

abbrev Three := ByteArray × ByteArray × ByteArray
def parseG (l : List ByteArray) : Option Three := match l with
  | [a, b, c] => if mayG a b c = true then some (a, b, c) else none
  | _ => none
def gavV (x : Option Three) : Value := match x with
  | some (a, b, c) => .tuple #[.agg #[.string a, .string b, .string c], .int .i64 0]
  | none => .tuple #[.agg #[.string ⟨#[]⟩, .string ⟨#[]⟩, .string ⟨#[]⟩], .int .i64 1]
structure GavAt (w : World) (B : Nat) (m : Int) (a b c : ByteArray) (w' : World) : Prop where
  below : Below B w w'
  lt : B + 2 < w'.heap.size
  zero : w'.heap[B]? = some (.cells #[.string ⟨#[]⟩, .string ⟨#[]⟩, .string ⟨#[]⟩] 35 (0, 0))
  gav : w'.heap[B + 2]? = some (.cells #[.string a, .string b, .string c] 35 (0, 0))
  max : w'.cell? ⟨0, 0, none⟩ = some (.int .i64 m)
theorem GavAt.up {w : World} {B : Nat} {m : Int} {a b c : ByteArray} {w1 w2 : World} (h : GavAt w B m a b c w1) (hb : Below w1.heap.size w1 w2) : GavAt w B m a b c w2 := by
  have := h.lt
  refine ⟨h.below.trans (hb.mono (by omega)), Nat.lt_of_lt_of_le h.lt hb.size, (hb.block _ (by omega)).trans h.zero, (hb.block _ (by omega)).trans h.gav, ?_⟩
  exact (hb.cell (p := ⟨0, 0, none⟩) (World.block_lt_of_cell? _ _ h.max)).trans h.max
theorem GavAt.cells {w : World} {B : Nat} {m : Int} {a b c : ByteArray} {w1 : World} (h : GavAt w B m a b c w1) :
    w1.cell? ⟨B + 1 + 1, 0, none⟩ = some (.string a) ∧ w1.cell? ⟨B + 1 + 1, 1, none⟩ = some (.string b) ∧ w1.cell? ⟨B + 1 + 1, 2, none⟩ = some (.string c) ∧
    w1.cell? ⟨B, 0, none⟩ = some (.string ⟨#[]⟩) ∧ w1.cell? ⟨B, 1, none⟩ = some (.string ⟨#[]⟩) ∧ w1.cell? ⟨B, 2, none⟩ = some (.string ⟨#[]⟩) ∧
    w1.frozen? ⟨B, 0, none⟩ = false ∧ w1.frozen? ⟨B, 1, none⟩ = false ∧ w1.frozen? ⟨B, 2, none⟩ = false := by
  refine ⟨?_, ?_, ?_, ?_, ?_, ?_, ?_, ?_, ?_⟩
  all_goals first
    | (rw [Lib.cell_of_heap h.gav]; rfl)
    | (rw [Lib.cell_of_heap h.zero]; rfl)
    | exact frozen_of_row _ _ _ _ _ h.zero
theorem gav_start {w w3 : World} {m : Int} {a b c : ByteArray} {l : Array Value} (hm : w.cell? ⟨0, 0, none⟩ = some (.int .i64 m)) (h : w3 = (((w.alloc (.cells #[.string ⟨#[]⟩, .string ⟨#[]⟩, .string ⟨#[]⟩] 35)).alloc (.cells l 9)).alloc (.cells #[.string a, .string b, .string c] 35)).drew) : GavAt w w.heap.size m a b c w3 := by
  have h0 : w3.heap = ((w.heap.push (.cells #[.string ⟨#[]⟩, .string ⟨#[]⟩, .string ⟨#[]⟩] 35 (0, 0))).push (.cells l 9 (0, 0))).push (.cells #[.string a, .string b, .string c] 35 (0, 0)) := by rw [h]; rfl
  have hB : Below w.heap.size w w3 := by
    rw [h]
    exact ((((Below.refl _ w).alloc (Nat.le_refl _) _).alloc (by simp) _).alloc (by simp; omega) _).drew
  refine ⟨hB, by rw [h0]; simp, ?_, ?_, (hB.cell (p := ⟨0, 0, none⟩) (World.block_lt_of_cell? _ _ hm)).trans hm⟩
  · rw [h0, Array.getElem?_push, if_neg (by simp; omega), Array.getElem?_push, if_neg (by simp), Array.getElem?_push, if_pos (by simp)]
  · rw [h0, Array.getElem?_push, if_pos (by simp)]
theorem MayGav_at {w w3 : World} {B : Nat} {m : Int} {a b c : ByteArray} (h : GavAt w B m a b c w3) (ha : a.size ≤ 1000000) (hb : b.size ≤ 1000000) (hc : c.size ≤ 1000000) : Calls Tryd.prog 24 #[.agg #[.string a, .string b, .string c]] w3 fun e w' => e = .returned (.bool (mayG a b c)) ∧ GavAt w B m a b c w' :=
  (MayGav_any a b c m w3 ha hb hc h.max).mono fun _ _ h1 => ⟨h1.1, h.up h1.2⟩
set_option maxHeartbeats 1000000 in
theorem ParseGav_no {s : ByteArray} {w : World} {L : List ByteArray} (H3 : Hid (¬ L.length = 3)) (Hp : Hid (parseG L = none)) (HS : Hid (∀ (z : Array Value) (t : TypeId), Calls Tryd.prog 46 #[.string s, .string ⟨#[58]⟩] (w.alloc (.cells z t)) fun e w' =>
    e = .returned (.slice (some ⟨(w.alloc (.cells z t)).heap.size, 0, none⟩) L.length L.length) ∧ w' = (w.alloc (.cells z t)).alloc (.cells (L.map Value.string).toArray 9))) : Calls Tryd.prog 34 #[.string s] w fun e w' => e = .returned (gavV (parseG L)) ∧ Below w.heap.size w w' := by
  have h3 : (((L.length : Nat) : Int) == 3) = false := beq_eq_false_iff_ne.2 (by have := H3.out; omega)
  have g3 : (((L.length : Nat) : Int) != 3) = true := by rw [bne, h3]; rfl
  go_enter Tryd.func34, Tryd.ntmps34
  go_wp2_with fail
  refine (HS.out _ _).mono ?_
  rintro e w1 ⟨rfl, hw⟩
  have hz : w1.heap[w.heap.size]? = some (.cells #[.string ⟨#[]⟩, .string ⟨#[]⟩, .string ⟨#[]⟩] 35 (0, 0)) := by
    rw [hw, Below.heap_alloc _ _ _ (by simp)]; exact heap_alloc_new _ _
  have HB : Hid (Below w.heap.size w w1) := Lib.hid (by rw [hw]; exact (below_alloc w _).alloc (by simp) _)
  clear hw
  obtain ⟨B, hB⟩ : ∃ B, B = w.heap.size := ⟨_, rfl⟩
  rw [← hB] at hz ⊢
  have HBe := Lib.hid hB
  clear hB
  have HZ := Lib.hid hz
  have z0 : w1.cell? ⟨B, 0, none⟩ = some (.string ⟨#[]⟩) := by rw [Lib.cell_of_heap hz]; rfl
  have z1 : w1.cell? ⟨B, 1, none⟩ = some (.string ⟨#[]⟩) := by rw [Lib.cell_of_heap hz]; rfl
  have z2 : w1.cell? ⟨B, 2, none⟩ = some (.string ⟨#[]⟩) := by rw [Lib.cell_of_heap hz]; rfl
  have f0 := frozen_of_row _ _ 0 _ _ hz
  have f1 := frozen_of_row _ _ 1 _ _ hz
  have f2 := frozen_of_row _ _ 2 _ _ hz
  clear hz
  go_wp2
  rw [Hp.out]
  exact bodyPost_ret (results_row2 rfl _ _ B _ _ (0, 0) _ rfl (set3 HZ.out) Tryd.underlying35 rfl (by kernel_rfl)) rfl ⟨rfl, by rw [← HBe.out]; exact below3 (HBe.out ▸ HB.out)⟩
set_option maxHeartbeats 2000000 in
theorem ParseGav_any (s : ByteArray) (m : Int) (w : World) (hs : s.size ≤ 1000000) (hm : w.cell? ⟨0, 0, none⟩ = some (.int .i64 m)) : Calls Tryd.prog 34 #[.string s] w fun e w' => e = .returned (gavV (parseG (pcs s))) ∧ Below w.heap.size w w' := by
  have hgl := World.block_lt_of_cell? _ _ hm
  have HS := Lib.hid (fun z t => Split_any s m (w.alloc (.cells z t)) hs (by rw [World.cell?_alloc_old _ _ _ (Nat.ne_of_lt hgl)]; exact hm))
  have Hsz := Lib.hid (fun p (h : p ∈ pcs s) => Nat.le_trans (pcs_size h) hs)
  have HMx := Lib.hid hm
  clear hm hgl hs
  generalize pcs s = L at HS Hsz ⊢
  rcases L with _ | ⟨a, _ | ⟨b, _ | ⟨c, _ | ⟨d, L⟩⟩⟩⟩
  case cons.cons.cons.nil =>
    go_enter Tryd.func34, Tryd.ntmps34
    go_wp2_with (go_at_call 46; refine (HS.out _ _).mono ?_; rintro e w1 ⟨rfl, rfl⟩)
    go_region
    generalize hw3 : (World.drew _) = w3
    have HK := Lib.hid (gav_start HMx.out hw3.symm)
    clear hw3
    obtain ⟨B, hB⟩ : ∃ B, B = w.heap.size := ⟨_, rfl⟩
    rw [← hB] at HK ⊢
    have HBe := Lib.hid hB
    clear hB
    obtain ⟨k0, k1, k2, -, -, -, -, -, -⟩ := HK.out.cells
    have HM := Lib.hid (fun hq => MayGav_at (B := B) (m := m) (w := w) (w3 := w3) (a := a) (b := b) (c := c) hq (Hsz.out a (by simp)) (Hsz.out b (by simp)) (Hsz.out c (by simp)))
    have Hp := Lib.hid (show parseG [a, b, c] = if mayG a b c = true then some (a, b, c) else none from rfl)
    cases hmk : mayG a b c with
    | true =>
      rw [hmk] at HM
      have Hp := Lib.hid (Hp.out.trans (if_pos hmk))
      clear hmk
      go_wp2_with (go_at_call 24; refine (HM.out HK.out).mono ?_; rintro e w4 ⟨rfl, hq⟩; obtain ⟨c0, c1, c2, z0, z1, z2, f0, f1, f2⟩ := hq.cells; have HQ := Lib.hid hq; clear hq)
      rw [Hp.out]
      exact bodyPost_ret (results_row2 rfl _ _ B _ _ (0, 0) _ rfl (set3 HQ.out.zero) Tryd.underlying35 rfl (by kernel_rfl)) rfl ⟨rfl, by rw [← HBe.out]; exact below3 HQ.out.below⟩
    | false =>
      rw [hmk] at HM
      have Hp := Lib.hid (Hp.out.trans (if_neg (by rw [hmk]; simp)))
      clear hmk
      go_wp2_with (go_at_call 24; refine (HM.out HK.out).mono ?_; rintro e w4 ⟨rfl, hq⟩; obtain ⟨c0, c1, c2, z0, z1, z2, f0, f1, f2⟩ := hq.cells; have HQ := Lib.hid hq; clear hq)
      rw [Hp.out]
      exact bodyPost_ret (results_row2 rfl _ _ B _ _ (0, 0) _ rfl (set3 HQ.out.zero) Tryd.underlying35 rfl (by kernel_rfl)) rfl ⟨rfl, by rw [← HBe.out]; exact below3 HQ.out.below⟩
  case nil => exact ParseGav_no (Lib.hid (by simp)) (Lib.hid rfl) HS
  case cons.nil => exact ParseGav_no (Lib.hid (by simp)) (Lib.hid rfl) HS
  case cons.cons.nil => exact ParseGav_no (Lib.hid (by simp)) (Lib.hid rfl) HS
  case cons.cons.cons.cons => exact ParseGav_no (Lib.hid (by simp)) (Lib.hid rfl) HS
set_option maxHeartbeats 1000000 in
theorem PrintGav_any (a b c : ByteArray) (w : World) (ha : a.size ≤ 100000) (hb : b.size ≤ 100000) (hc : c.size ≤ 100000) : Calls Tryd.prog 36 #[.agg #[.string a, .string b, .string c]] w fun e w' => e = .returned (.string (a ++ ⟨#[58]⟩ ++ b ++ ⟨#[58]⟩ ++ c)) ∧ Below w.heap.size w w' := by
  go_enter Tryd.func36, Tryd.ntmps36
  go_wp2
  go_ret
  exact ⟨rfl, below_alloc _ _⟩
def printK (a b c d : ByteArray) : ByteArray := if emptyB d = true then a ++ ⟨#[58]⟩ ++ b ++ ⟨#[58]⟩ ++ c else a ++ ⟨#[58]⟩ ++ b ++ ⟨#[58]⟩ ++ c ++ (⟨#[58]⟩ ++ d)
set_option maxHeartbeats 1000000 in
theorem PrintKey_any (a b c d : ByteArray) (w : World) (ha : a.size ≤ 100000) (hb : b.size ≤ 100000) (hc : c.size ≤ 100000) (hd : d.size ≤ 100000) : Calls Tryd.prog 37 #[.agg #[.string a, .string b, .string c, .string d]] w fun e w' => e = .returned (.string (printK a b c d)) ∧ Below w.heap.size w w' := by
  have he : (d.toList == []) = emptyB d := rfl
  have hg : (d.toList != []) = !(d.toList == []) := rfl
  rw [he] at hg
  cases hx : emptyB d
  all_goals
    have Hr := Lib.hid (show printK a b c d = if emptyB d = true then a ++ ⟨#[58]⟩ ++ b ++ ⟨#[58]⟩ ++ c else a ++ ⟨#[58]⟩ ++ b ++ ⟨#[58]⟩ ++ c ++ (⟨#[58]⟩ ++ d) from rfl)
    rw [hx] at he hg Hr
    clear hx
    generalize printK a b c d = r at Hr ⊢
    go_enter Tryd.func37, Tryd.ntmps37
    go_wp2
    go_ret
    exact ⟨by rw [Hr.out]; rfl, below_alloc _ _⟩
set_option maxHeartbeats 1000000 in
theorem refPrintKey_any (a b c d : ByteArray) (w : World) (ha : a.size ≤ 100000) (hb : b.size ≤ 100000) (hc : c.size ≤ 100000) (hd : d.size ≤ 100000) : Calls Tryd.prog 38 #[.agg #[.string a, .string b, .string c, .string d]] w fun e w' => e = .returned (.string (printK a b c d)) ∧ Below w.heap.size w w' := by
  have he : (d.toList == []) = emptyB d := rfl
  have hg : (d.toList != []) = !(d.toList == []) := rfl
  rw [he] at hg
  cases hx : emptyB d
  all_goals
    have Hr := Lib.hid (show printK a b c d = if emptyB d = true then a ++ ⟨#[58]⟩ ++ b ++ ⟨#[58]⟩ ++ c else a ++ ⟨#[58]⟩ ++ b ++ ⟨#[58]⟩ ++ c ++ (⟨#[58]⟩ ++ d) from rfl)
    rw [hx] at he hg Hr
    clear hx
    generalize printK a b c d = r at Hr ⊢
    go_enter Tryd.func38, Tryd.ntmps38
    go_wp2
    go_ret
    exact ⟨by rw [Hr.out]; rfl, below_alloc _ _⟩
end Go.Proofs.YtldhgdoeehnbjaaDoor
