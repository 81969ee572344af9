/- a text cut at its colons; keys and projects, parsed. -/
import Derived.Test.YtldhgdoeehnbjaaDoorCoW4
namespace Go.Proofs.YtldhgdoeehnbjaaDoor
open Go.RowKit
open C01

def colon : ByteArray := ⟨#[58]⟩
def pcs (s : ByteArray) : List ByteArray := Lib.splitB colon 0 (Lib.countB s colon) s
theorem pcs_length (s : ByteArray) : (pcs s).length = Lib.countB s colon + 1 := Lib.splitB_all colon (by decide) 0 _ s rfl
theorem splitB_size (sep : ByteArray) : ∀ (k : Nat) (s p : ByteArray), p ∈ Lib.splitB sep 0 k s → p.size ≤ s.size
  | 0, s, p, h => by rw [Lib.splitB_zero, List.mem_singleton] at h; rw [h]; exact Nat.le_refl _
  | k + 1, s, p, h => by
    rw [Lib.splitB] at h
    split at h
    · rw [List.mem_singleton] at h; rw [h]; exact Nat.le_refl _
    · rcases List.mem_cons.1 h with rfl | h
      · rw [ByteArray.size_extract]; omega
      · have := splitB_size sep k _ p h
        rw [ByteArray.size_extract] at this
        omega
theorem pcs_size {s p : ByteArray} (h : p ∈ pcs s) : p.size ≤ s.size := splitB_size colon _ s p h
theorem Split_any (s : ByteArray) (m : Int) (w : World) (hs : s.size ≤ 1000000) (hm : w.cell? ⟨0, 0, none⟩ = some (.int .i64 m)) : Calls Tryd.prog 46 #[.string s, .string ⟨#[58]⟩] w fun e w' =>
    e = .returned (.slice (some ⟨w.heap.size, 0, none⟩) (pcs s).length (pcs s).length) ∧ w' = w.alloc (.cells ((pcs s).map Value.string).toArray 9) := by
  rw [pcs_length]
  exact Any.strings_Split laySp (by kernel_rfl) s ⟨#[58]⟩ m w (by omega) hm (by decide)
abbrev Four := ByteArray × ByteArray × ByteArray × ByteArray
def parseK (l : List ByteArray) : Option Four := match l with
  | [a, b, c] => if mayK a b c ⟨#[]⟩ = true then some (a, b, c, ⟨#[]⟩) else none
  | [a, b, c, d] => if mayK a b c d = true ∧ emptyB d = false then some (a, b, c, d) else none
  | _ => none
def keyV (x : Option Four) : Value := match x with
  | some (a, b, c, d) => .tuple #[.agg #[.string a, .string b, .string c, .string d], .int .i64 0]
  | none => .tuple #[.agg #[.string ⟨#[]⟩, .string ⟨#[]⟩, .string ⟨#[]⟩, .string ⟨#[]⟩], .int .i64 1]
/-- The world behind the building of a key: block B is the result's, block B + 2 the key. -/
structure KeyAt (w : World) (B : Nat) (a b c d : ByteArray) (w' : World) : Prop where
  below : Below B w w'
  lt : B + 2 < w'.heap.size
  zero : w'.heap[B]? = some (.cells #[.string ⟨#[]⟩, .string ⟨#[]⟩, .string ⟨#[]⟩, .string ⟨#[]⟩] 30 (0, 0))
  key : w'.heap[B + 2]? = some (.cells #[.string a, .string b, .string c, .string d] 30 (0, 0))
theorem KeyAt.up {w : World} {B : Nat} {a b c d : ByteArray} {w1 w2 : World} (h : KeyAt w B a b c d w1) (hb : Below w1.heap.size w1 w2) : KeyAt w B a b c d w2 := by
  have := h.lt
  refine ⟨h.below.trans (hb.mono (by omega)), Nat.lt_of_lt_of_le h.lt hb.size, (hb.block _ (by omega)).trans h.zero, (hb.block _ (by omega)).trans h.key⟩
theorem KeyAt.cells {w : World} {B : Nat} {a b c d : ByteArray} {w1 : World} (h : KeyAt w B a b c d w1) :
    w1.cell? ⟨B + 1 + 1, 0, none⟩ = some (.string a) ∧ w1.cell? ⟨B + 1 + 1, 1, none⟩ = some (.string b) ∧ w1.cell? ⟨B + 1 + 1, 2, none⟩ = some (.string c) ∧ w1.cell? ⟨B + 1 + 1, 3, none⟩ = some (.string d) ∧
    w1.cell? ⟨B, 0, none⟩ = some (.string ⟨#[]⟩) ∧ w1.cell? ⟨B, 1, none⟩ = some (.string ⟨#[]⟩) ∧ w1.cell? ⟨B, 2, none⟩ = some (.string ⟨#[]⟩) ∧ w1.cell? ⟨B, 3, none⟩ = some (.string ⟨#[]⟩) ∧
    w1.frozen? ⟨B, 0, none⟩ = false ∧ w1.frozen? ⟨B, 1, none⟩ = false ∧ w1.frozen? ⟨B, 2, none⟩ = false ∧ w1.frozen? ⟨B, 3, none⟩ = false := by
  refine ⟨?_, ?_, ?_, ?_, ?_, ?_, ?_, ?_, ?_, ?_, ?_, ?_⟩
  all_goals first
    | (rw [Lib.cell_of_heap h.key]; rfl)
    | (rw [Lib.cell_of_heap h.zero]; rfl)
    | exact frozen_of_row _ _ _ _ _ h.zero
theorem key_start {w w3 : World} {a b c d : ByteArray} {l : Array Value} (h : w3 = (((w.alloc (.cells #[.string ⟨#[]⟩, .string ⟨#[]⟩, .string ⟨#[]⟩, .string ⟨#[]⟩] 30)).alloc (.cells l 9)).alloc (.cells #[.string a, .string b, .string c, .string d] 30)).drew) : KeyAt w w.heap.size a b c d w3 := by
  have h0 : w3.heap = ((w.heap.push (.cells #[.string ⟨#[]⟩, .string ⟨#[]⟩, .string ⟨#[]⟩, .string ⟨#[]⟩] 30 (0, 0))).push (.cells l 9 (0, 0))).push (.cells #[.string a, .string b, .string c, .string d] 30 (0, 0)) := by rw [h]; rfl
  refine ⟨?_, by rw [h0]; simp, ?_, ?_⟩
  · rw [h]
    exact ((((Below.refl _ w).alloc (Nat.le_refl _) _).alloc (by simp) _).alloc (by simp; omega) _).drew
  · rw [h0, Array.getElem?_push, if_neg (by simp; omega), Array.getElem?_push, if_neg (by simp), Array.getElem?_push, if_pos (by simp)]
  · rw [h0, Array.getElem?_push, if_pos (by simp)]
theorem set4 {w : World} {B : Nat} {t : TypeId} {a b c d x y z u : Value} (h : w.heap[B]? = some (.cells #[a, b, c, d] t (0, 0))) : ((((w.setCell ⟨B, 0, none⟩ x).setCell ⟨B, 1, none⟩ y).setCell ⟨B, 2, none⟩ z).setCell ⟨B, 3, none⟩ u).heap[B]? = some (.cells #[x, y, z, u] t (0, 0)) := by
  have h1 := heap_setCell_same w B 0 _ _ x h
  have h2 := heap_setCell_same _ B 1 _ _ y h1
  have h3 := heap_setCell_same _ B 2 _ _ z h2
  exact heap_setCell_same _ B 3 _ _ u h3
theorem set3 {w : World} {B : Nat} {t : TypeId} {a b c x y z : Value} (h : w.heap[B]? = some (.cells #[a, b, c] t (0, 0))) : (((w.setCell ⟨B, 0, none⟩ x).setCell ⟨B, 1, none⟩ y).setCell ⟨B, 2, none⟩ z).heap[B]? = some (.cells #[x, y, z] t (0, 0)) := by
  have h1 := heap_setCell_same w B 0 _ _ x h
  have h2 := heap_setCell_same _ B 1 _ _ y h1
  exact heap_setCell_same _ B 2 _ _ z h2
theorem below4 {w w1 : World} {B : Nat} {x y z u : Value} (h : Below B w w1) : Below B w ((((w1.setCell ⟨B, 0, none⟩ x).setCell ⟨B, 1, none⟩ y).setCell ⟨B, 2, none⟩ z).setCell ⟨B, 3, none⟩ u) :=
  (((h.setCell (p := ⟨B, 0, none⟩) (Nat.le_refl B) x).setCell (p := ⟨B, 1, none⟩) (Nat.le_refl B) y).setCell (p := ⟨B, 2, none⟩) (Nat.le_refl B) z).setCell (p := ⟨B, 3, none⟩) (Nat.le_refl B) u
theorem below3 {w w1 : World} {B : Nat} {x y z : Value} (h : Below B w w1) : Below B w (((w1.setCell ⟨B, 0, none⟩ x).setCell ⟨B, 1, none⟩ y).setCell ⟨B, 2, none⟩ z) :=
  ((h.setCell (p := ⟨B, 0, none⟩) (Nat.le_refl B) x).setCell (p := ⟨B, 1, none⟩) (Nat.le_refl B) y).setCell (p := ⟨B, 2, none⟩) (Nat.le_refl B) z
theorem results_row2 {P : Program} {fn : Func} {p u : Tmp} {ty : TypeId} (h : fn.results = #[.cell p ty, .tmp u]) (tmps : Array Value) (w : World) (g : Nat) (t : TypeId) (cs : Array Value) (fr : Nat × Nat) (d : TypeDesc)
    (hp : tmps.getD p undef = .pointer (some ⟨g, 0, none⟩)) (hg : w.heap[g]? = some (.cells cs t fr))
    (hu : P.underlying ty = some d) (hd : (match d with | .struct _ | .array _ _ => true | _ => false) = true) (hi : (P.info? ty).map (·.size) = some cs.size) :
    (results fn tmps).run P w = .ok (.tuple #[.agg cs, tmps.getD u undef]) w := by
  have hp' : tmps[p]?.getD undef = .pointer (some ⟨g, 0, none⟩) := by simpa using hp
  rw [results_cell_tmp h, hp]
  simp [asAddr, Result.andThen, run_loadVar_row w g t ty cs fr d hg hu hd hi]
theorem list_start {w w3 : World} {a b c d : ByteArray} {l : Array Value} (h : w3 = (((w.alloc (.cells #[.string ⟨#[]⟩, .string ⟨#[]⟩, .string ⟨#[]⟩, .string ⟨#[]⟩] 30)).alloc (.cells l 9)).alloc (.cells #[.string a, .string b, .string c, .string d] 30)).drew) (j : Nat) : w3.cell? ⟨w.heap.size + 1, j, none⟩ = l[j]? := by
  have h0 : w3.heap = ((w.heap.push (.cells #[.string ⟨#[]⟩, .string ⟨#[]⟩, .string ⟨#[]⟩, .string ⟨#[]⟩] 30 (0, 0))).push (.cells l 9 (0, 0))).push (.cells #[.string a, .string b, .string c, .string d] 30 (0, 0)) := by rw [h]; rfl
  have h1 : w3.heap[w.heap.size + 1]? = some (.cells l 9 (0, 0)) := by rw [h0, Array.getElem?_push, if_neg (by simp), Array.getElem?_push, if_pos (by simp)]
  exact Lib.cell_of_heap h1 j
theorem KeyAt.set {w : World} {B : Nat} {a b c d : ByteArray} {w1 : World} (h : KeyAt w B a b c d w1) (x : ByteArray) : KeyAt w B a b c x (w1.setCell ⟨B + 1 + 1, 3, none⟩ (.string x)) := by
  have := h.lt
  refine ⟨h.below.setCell (p := ⟨B + 1 + 1, 3, none⟩) (by show B ≤ B + 1 + 1; omega) _, by simpa using h.lt, ?_, ?_⟩
  · rw [Below.heap_setCell _ ⟨B + 1 + 1, 3, none⟩ _ _ (by show B ≠ B + 1 + 1; omega)]; exact h.zero
  · exact heap_setCell_same w1 (B + 1 + 1) 3 _ _ (.string x) h.key
theorem MayKey_at {w w3 : World} {B : Nat} {a b c d : ByteArray} (h : KeyAt w B a b c d w3) (ha : a.size ≤ 1000000) (hb : b.size ≤ 1000000) (hc : c.size ≤ 1000000) (hd : d.size ≤ 1000000) : Calls Tryd.prog 26 #[.agg #[.string a, .string b, .string c, .string d]] w3 fun e w' => e = .returned (.bool (mayK a b c d)) ∧ KeyAt w B a b c d w' :=
  (MayKey_any a b c d w3 ha hb hc hd).mono fun _ _ h1 => ⟨h1.1, h.up h1.2⟩
set_option maxHeartbeats 1000000 in
theorem ParseKey_no {s : ByteArray} {w : World} {L : List ByteArray} (H3 : Hid (¬ L.length = 3)) (H4 : Hid (¬ L.length = 4)) (Hp : Hid (parseK L = none)) (HS : Hid (∀ (z : Array Value) (t : TypeId), Calls Tryd.prog 46 #[.string s, .string ⟨#[58]⟩] (w.alloc (.cells z t)) fun e w' =>
    e = .returned (.slice (some ⟨(w.alloc (.cells z t)).heap.size, 0, none⟩) L.length L.length) ∧ w' = (w.alloc (.cells z t)).alloc (.cells (L.map Value.string).toArray 9))) : Calls Tryd.prog 35 #[.string s] w fun e w' => e = .returned (keyV (parseK L)) ∧ Below w.heap.size w w' := by
  have h3 : (((L.length : Nat) : Int) == 3) = false := beq_eq_false_iff_ne.2 (by have := H3.out; omega)
  have h4 : (((L.length : Nat) : Int) == 4) = false := beq_eq_false_iff_ne.2 (by have := H4.out; omega)
  have g3 : (((L.length : Nat) : Int) != 3) = true := by rw [bne, h3]; rfl
  have g4 : (((L.length : Nat) : Int) != 4) = true := by rw [bne, h4]; rfl
  go_enter Tryd.func35, Tryd.ntmps35
  go_wp2_with fail
  refine (HS.out _ _).mono ?_
  rintro e w1 ⟨rfl, hw⟩
  have hz : w1.heap[w.heap.size]? = some (.cells #[.string ⟨#[]⟩, .string ⟨#[]⟩, .string ⟨#[]⟩, .string ⟨#[]⟩] 30 (0, 0)) := by
    rw [hw, Below.heap_alloc _ _ _ (by simp)]; exact heap_alloc_new _ _
  have HB : Hid (Below w.heap.size w w1) := Lib.hid (by rw [hw]; exact (below_alloc w _).alloc (by simp) _)
  clear hw
  obtain ⟨B, hB⟩ : ∃ B, B = w.heap.size := ⟨_, rfl⟩
  rw [← hB] at hz ⊢
  have HBe := Lib.hid hB
  clear hB
  have HZ := Lib.hid hz
  have z0 : w1.cell? ⟨B, 0, none⟩ = some (.string ⟨#[]⟩) := by rw [Lib.cell_of_heap hz]; rfl
  have z1 : w1.cell? ⟨B, 1, none⟩ = some (.string ⟨#[]⟩) := by rw [Lib.cell_of_heap hz]; rfl
  have z2 : w1.cell? ⟨B, 2, none⟩ = some (.string ⟨#[]⟩) := by rw [Lib.cell_of_heap hz]; rfl
  have z3 : w1.cell? ⟨B, 3, none⟩ = some (.string ⟨#[]⟩) := by rw [Lib.cell_of_heap hz]; rfl
  have f0 := frozen_of_row _ _ 0 _ _ hz
  have f1 := frozen_of_row _ _ 1 _ _ hz
  have f2 := frozen_of_row _ _ 2 _ _ hz
  have f3 := frozen_of_row _ _ 3 _ _ hz
  clear hz
  go_wp2
  rw [Hp.out]
  exact bodyPost_ret (results_row2 rfl _ _ B _ _ (0, 0) _ rfl (set4 HZ.out) Tryd.underlying30 rfl (by kernel_rfl)) rfl ⟨rfl, by rw [← HBe.out]; exact below4 (HBe.out ▸ HB.out)⟩
set_option maxHeartbeats 2000000 in
theorem ParseKey_any (s : ByteArray) (m : Int) (w : World) (hs : s.size ≤ 1000000) (hm : w.cell? ⟨0, 0, none⟩ = some (.int .i64 m)) : Calls Tryd.prog 35 #[.string s] w fun e w' => e = .returned (keyV (parseK (pcs s))) ∧ Below w.heap.size w w' := by
  have hgl := World.block_lt_of_cell? _ _ hm
  have HS := Lib.hid (fun z t => Split_any s m (w.alloc (.cells z t)) hs (by rw [World.cell?_alloc_old _ _ _ (Nat.ne_of_lt hgl)]; exact hm))
  have Hsz := Lib.hid (fun p (h : p ∈ pcs s) => Nat.le_trans (pcs_size h) hs)
  clear hm hgl hs
  generalize pcs s = L at HS Hsz ⊢
  rcases L with _ | ⟨a, _ | ⟨b, _ | ⟨c, _ | ⟨d, _ | ⟨f, L⟩⟩⟩⟩⟩
  case cons.cons.cons.nil =>
    go_enter Tryd.func35, Tryd.ntmps35
    go_wp2_with (go_at_call 46; refine (HS.out _ _).mono ?_; rintro e w1 ⟨rfl, rfl⟩)
    go_region
    generalize hw3 : (World.drew _) = w3
    have HK := Lib.hid (key_start hw3.symm)
    have HLs := Lib.hid (list_start hw3.symm)
    clear hw3
    obtain ⟨B, hB⟩ : ∃ B, B = w.heap.size := ⟨_, rfl⟩
    rw [← hB] at HK HLs ⊢
    have HBe := Lib.hid hB
    clear hB
    obtain ⟨k0, k1, k2, k3, -, -, -, -, -, -, -, -⟩ := HK.out.cells
    have HM := Lib.hid (fun hq => MayKey_at (B := B) (w := w) (w3 := w3) (a := a) (b := b) (c := c) (d := ⟨#[]⟩) hq (Hsz.out a (by simp)) (Hsz.out b (by simp)) (Hsz.out c (by simp)) (by decide))
    have Hp := Lib.hid (show parseK [a, b, c] = if mayK a b c ⟨#[]⟩ = true then some (a, b, c, ⟨#[]⟩) else none from rfl)
    cases hmk : mayK a b c ⟨#[]⟩ with
    | true =>
      rw [hmk] at HM
      have Hp := Lib.hid (Hp.out.trans (if_pos hmk))
      clear hmk
      go_wp2_with (go_at_call 26; refine (HM.out HK.out).mono ?_; rintro e w4 ⟨rfl, hq⟩; obtain ⟨c0, c1, c2, c3, z0, z1, z2, z3, f0, f1, f2, f3⟩ := hq.cells; have HQ := Lib.hid hq; clear hq)
      rw [Hp.out]
      exact bodyPost_ret (results_row2 rfl _ _ B _ _ (0, 0) _ rfl (set4 HQ.out.zero) Tryd.underlying30 rfl (by kernel_rfl)) rfl ⟨rfl, by rw [← HBe.out]; exact below4 HQ.out.below⟩
    | false =>
      rw [hmk] at HM
      have Hp := Lib.hid (Hp.out.trans (if_neg (by rw [hmk]; simp)))
      clear hmk
      go_wp2_with (go_at_call 26; refine (HM.out HK.out).mono ?_; rintro e w4 ⟨rfl, hq⟩; obtain ⟨c0, c1, c2, c3, z0, z1, z2, z3, f0, f1, f2, f3⟩ := hq.cells; have HQ := Lib.hid hq; clear hq)
      rw [Hp.out]
      exact bodyPost_ret (results_row2 rfl _ _ B _ _ (0, 0) _ rfl (set4 HQ.out.zero) Tryd.underlying30 rfl (by kernel_rfl)) rfl ⟨rfl, by rw [← HBe.out]; exact below4 HQ.out.below⟩
  case cons.cons.cons.cons.nil =>
    go_enter Tryd.func35, Tryd.ntmps35
    go_wp2_with (go_at_call 46; refine (HS.out _ _).mono ?_; rintro e w1 ⟨rfl, rfl⟩)
    go_region
    generalize hw3 : (World.drew _) = w3
    have HK := Lib.hid (key_start hw3.symm)
    have HLs := Lib.hid (list_start hw3.symm)
    clear hw3
    obtain ⟨B, hB⟩ : ∃ B, B = w.heap.size := ⟨_, rfl⟩
    rw [← hB] at HK HLs ⊢
    have HBe := Lib.hid hB
    clear hB
    obtain ⟨k0, k1, k2, k3, -, -, -, -, -, -, -, -⟩ := HK.out.cells
    have l3 := HLs.out 3
    simp only [List.getElem?_toArray, List.getElem?_cons_succ, List.getElem?_cons_zero] at l3
    have HK2 := Lib.hid (HK.out.set d)
    have fz := frozen_of_row _ _ 3 _ _ HK.out.key
    obtain ⟨g0, g1, g2, g3, -, -, -, -, -, -, -, -⟩ := HK2.out.cells
    have HM := Lib.hid (fun hq => MayKey_at (B := B) (w := w) (w3 := w3.setCell ⟨B + 1 + 1, 3, none⟩ (.string d)) (a := a) (b := b) (c := c) (d := d) hq (Hsz.out a (by simp)) (Hsz.out b (by simp)) (Hsz.out c (by simp)) (Hsz.out d (by simp)))
    have Hp := Lib.hid (show parseK [a, b, c, d] = if mayK a b c d = true ∧ emptyB d = false then some (a, b, c, d) else none from rfl)
    have he : (d.toList == []) = emptyB d := rfl
    cases hmk : mayK a b c d with
    | true =>
      rw [hmk] at HM
      cases hem : emptyB d with
      | true =>
        have Hp := Lib.hid (Hp.out.trans (if_neg (by rw [hem]; simp)))
        rw [hem] at he
        clear hmk hem
        go_wp2_with (go_at_call 26; refine (HM.out HK2.out).mono ?_; rintro e w4 ⟨rfl, hq⟩; obtain ⟨c0, c1, c2, c3, z0, z1, z2, z3, f0, f1, f2, f3⟩ := hq.cells; have HQ := Lib.hid hq; clear hq)
        rw [Hp.out]
        exact bodyPost_ret (results_row2 rfl _ _ B _ _ (0, 0) _ rfl (set4 HQ.out.zero) Tryd.underlying30 rfl (by kernel_rfl)) rfl ⟨rfl, by rw [← HBe.out]; exact below4 HQ.out.below⟩
      | false =>
        have Hp := Lib.hid (Hp.out.trans (if_pos ⟨hmk, hem⟩))
        rw [hem] at he
        clear hmk hem
        go_wp2_with (go_at_call 26; refine (HM.out HK2.out).mono ?_; rintro e w4 ⟨rfl, hq⟩; obtain ⟨c0, c1, c2, c3, z0, z1, z2, z3, f0, f1, f2, f3⟩ := hq.cells; have HQ := Lib.hid hq; clear hq)
        rw [Hp.out]
        exact bodyPost_ret (results_row2 rfl _ _ B _ _ (0, 0) _ rfl (set4 HQ.out.zero) Tryd.underlying30 rfl (by kernel_rfl)) rfl ⟨rfl, by rw [← HBe.out]; exact below4 HQ.out.below⟩
    | false =>
      rw [hmk] at HM
      have Hp := Lib.hid (Hp.out.trans (if_neg (by rw [hmk]; simp)))
      clear hmk he
      go_wp2_with (go_at_call 26; refine (HM.out HK2.out).mono ?_; rintro e w4 ⟨rfl, hq⟩; obtain ⟨c0, c1, c2, c3, z0, z1, z2, z3, f0, f1, f2, f3⟩ := hq.cells; have HQ := Lib.hid hq; clear hq)
      rw [Hp.out]
      exact bodyPost_ret (results_row2 rfl _ _ B _ _ (0, 0) _ rfl (set4 HQ.out.zero) Tryd.underlying30 rfl (by kernel_rfl)) rfl ⟨rfl, by rw [← HBe.out]; exact below4 HQ.out.below⟩
  case nil => exact ParseKey_no (Lib.hid (by decide)) (Lib.hid (by decide)) (Lib.hid rfl) HS
  case cons.nil => exact ParseKey_no (Lib.hid (by simp)) (Lib.hid (by simp)) (Lib.hid rfl) HS
  case cons.cons.nil => exact ParseKey_no (Lib.hid (by simp)) (Lib.hid (by simp)) (Lib.hid rfl) HS
  case cons.cons.cons.cons.cons => exact ParseKey_no (Lib.hid (by simp)) (Lib.hid (by simp)) (Lib.hid rfl) HS
end Go.Proofs.YtldhgdoeehnbjaaDoor
