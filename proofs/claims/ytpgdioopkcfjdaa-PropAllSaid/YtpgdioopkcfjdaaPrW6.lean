/- Properties put in: slices.Clone, Put, Over, the reference's Put. -/
import Derived.Test.YtpgdioopkcfjdaaPrW5
import Derived.Test.YtpgdioopkcfjdaaChB
import Derived.Lib.SliceRun
namespace Go.Proofs.Ytpgdioopkcfjdaa
open Go.RowKit

def putP (L : PL) (n v : Bs) : PL := match L.findIdx? (fun p => p.1 == n) with | some i => L.set i (n, v) | none => L ++ [(n, v)]
theorem putP_idx (L : PL) (n v : Bs) : (∃ i, ∃ h : i < L.length, idxP L n = i ∧ L[i].1 = n ∧ putP L n v = L.set i (n, v)) ∨ (idxP L n = -1 ∧ putP L n v = L ++ [(n, v)]) := by
  unfold idxP putP
  cases hf : L.findIdx? (fun p => p.1 == n) with
  | none => exact .inr ⟨rfl, rfl⟩
  | some i =>
    obtain ⟨hi, hp, hlt⟩ := List.findIdx?_eq_some_iff_getElem.1 hf
    exact .inl ⟨i, hi, rfl, by simpa using hp, rfl⟩
theorem putP_length (L : PL) (n v : Bs) : (putP L n v).length ≤ L.length + 1 := by
  unfold putP; split <;> simp
theorem pcellsL_set : ∀ {L : PL} {i : Nat} (h : i < L.length) (v : Bs), (pcellsL L).set (i * 2 + 1) (sv v) = pcellsL (L.set i (L[i].1, v))
  | p :: L, 0, _, v => rfl
  | p :: L, i + 1, h, v => by
    have ih := pcellsL_set (L := L) (i := i) (by simpa using h) v
    rw [List.set_cons_succ, pcellsL_cons, pcellsL_cons, show (i + 1) * 2 + 1 = i * 2 + 1 + 1 + 1 by omega]
    simp only [List.set_cons_succ, List.getElem_cons_succ]
    rw [ih]
theorem own_set {w : World} {base g cap n sz : Nat} {t : TypeId} {xs : List Value} (h : w.ownsRow base t sz (.slice (some ⟨g, 0, none⟩) n cap) n xs) (j : Nat) (u : Value) : (w.setCell ⟨g, j, none⟩ u).ownsRow base t sz (.slice (some ⟨g, 0, none⟩) n cap) n (xs.set j u) := by
  obtain ⟨hl, ⟨h, _⟩ | ⟨g', cap', cur, h, hbg, hh, hnc, hcm, hsz, htk⟩⟩ := h
  · cases h
  cases h
  refine ⟨by rw [List.length_set]; exact hl, .inr ⟨g, cap, _, rfl, hbg, heap_setCell_same w g j cur t u hh, hnc, hcm, by simpa using hsz, ?_⟩⟩
  rw [← htk, Array.toList_setIfInBounds, List.take_set]
theorem POwn.set {w : World} {base g cap n : Nat} {L : PL} (h : POwn w base (.slice (some ⟨g, 0, none⟩) n cap) L) (hn : n = L.length) {i : Nat} (hi : i < L.length) (v : Bs) :
    POwn (w.setCell ⟨g, i * 2 + 1, none⟩ (sv v)) base (.slice (some ⟨g, 0, none⟩) n cap) (L.set i (L[i].1, v)) := by
  subst hn
  unfold POwn at *
  rw [← pcellsL_set hi, List.length_set]
  exact own_set h _ _
theorem POwn.lit0 (w : World) : POwn (w.alloc (.cells #[] 42)) w.heap.size (.slice (some ⟨w.heap.size, 0, none⟩) 0 0) [] :=
  World.ownsRow_lit (base := w.heap.size) (e := 42) (size := 2) w #[] 0 (Nat.le_refl _) (by unfold maxLen; omega) rfl
theorem POwn.nil (w : World) (base : Nat) : POwn w base (.slice none 0 0) [] := ⟨rfl, .inl ⟨rfl, rfl⟩⟩
theorem POwn.lt {w : World} {base : Nat} {v : Value} {L : PL} (h : POwn w base v L) : ∀ g, v.ownBlock = some g → base ≤ g ∧ g < w.heap.size := World.ownsRow.lt h
theorem POwn.form {w : World} {base : Nat} {v : Value} {L : PL} (h : POwn w base v L) (hp : 0 < L.length) : ∃ g cap, v = .slice (some ⟨g, 0, none⟩) L.length cap ∧ base ≤ g ∧ w.frozen? ⟨g, 0, none⟩ = false ∧ ∀ o, w.frozen? ⟨g, o, none⟩ = false := by
  rcases h.2 with ⟨rfl, h0⟩ | ⟨g, cap, cur, rfl, hg, hh, hnc, hm, hs, ht⟩
  · omega
  · exact ⟨g, cap, rfl, hg, frozen_of_row _ _ _ _ _ hh, fun o => frozen_of_row _ _ _ _ _ hh⟩
theorem POwn.shape {w : World} {base : Nat} {v : Value} {L : PL} (h : POwn w base v L) : ∃ A k, v = .slice A L.length k := own_shape h
theorem rprops_cells {w : World} {S : Nat → Prop} {a : Addr} {L : PL} (h : RAtV 2 VProp w S (some a) L) : ∀ j u, (pcellsL L)[j]? = some u → w.cell? (a.add j) = some u := by
  intro j u hu
  have hj := (List.getElem?_eq_some_iff.1 hu).1
  rw [pcellsL_length] at hj
  have hk : j / 2 < L.length := by omega
  obtain ⟨b, off, e, hb, c0, c1⟩ := prop_cells h hk
  simp only [Option.some.injEq] at e
  subst e
  rw [add_none]
  obtain ⟨p0, p1⟩ := pcellsL_at hk
  rcases Nat.mod_two_eq_zero_or_one j with h2 | h2
  · have : j = j / 2 * 2 := by omega
    rw [this] at hu
    rw [p0] at hu
    cases hu
    rw [show off + j = off + j / 2 * 2 by omega]; exact c0
  · have : j = j / 2 * 2 + 1 := by omega
    rw [this] at hu
    rw [p1] at hu
    cases hu
    rw [show off + j = off + j / 2 * 2 + 1 by omega]; exact c1
theorem propsNil {w : World} {S : Nat → Prop} {L : PL} (h : RAtV 2 VProp w S none L) : L = [] := by
  cases L with
  | nil => rfl
  | cons p L => obtain ⟨b, off, e, _⟩ := h (by simp); cases e
theorem POwn.at_ {w : World} {base g cap n : Nat} {L : PL} (h : POwn w base (.slice (some ⟨g, 0, none⟩) n cap) L) (hn : n = L.length) {i : Nat} (hi : i < L.length) : w.cell? ⟨g, i * 2 + 1, none⟩ = some (sv L[i].2) ∧ w.frozen? ⟨g, i * 2 + 1, none⟩ = false := by
  subst hn
  have h1 := World.ownsRow.cells h (g := g) rfl (i * 2 + 1) _ (pcellsL_at hi).2
  rw [add_none, Nat.zero_add] at h1
  obtain ⟨g', cap', e, -, -, hf⟩ := h.form (by omega)
  cases e
  exact ⟨h1, hf _⟩
theorem POwn.new {w w' : World} {base : Nat} {v : Value} {L : PL} (h : POwn w base v L) (hb : Below w.heap.size w w') : POwn w' base v L := own_new (xs := pcellsL L) hb h
theorem POwn.alloc {w : World} {base : Nat} {v : Value} {L : PL} (h : POwn w base v L) (o : Obj) : POwn (w.alloc o) base v L := h.new (below_alloc w o)
theorem two_cells {w : World} {q : Nat} {a b : Value} {t : TypeId} (h : w.heap[q]? = some (.cells #[a, b] t (0, 0))) : w.cell? ⟨q, 0, none⟩ = some a ∧ w.cell? ⟨q, 1, none⟩ = some b := ⟨cell_of_row _ _ _ _ _ (0, 0) h, cell_of_row _ _ _ _ _ (0, 0) h⟩
theorem two_new (w : World) (a b : Value) (t : TypeId) : (w.alloc (.cells #[a, b] t)).cell? ⟨w.heap.size, 0, none⟩ = some a ∧ (w.alloc (.cells #[a, b] t)).cell? ⟨w.heap.size, 1, none⟩ = some b :=
  ⟨cell_of_row _ _ _ _ _ (0, 0) (heap_alloc_new w _), cell_of_row _ _ _ _ _ (0, 0) (heap_alloc_new w _)⟩
theorem Clone_any (s : Value) (L : PL) (w : World) (hs : RProps w (Lt w.heap.size) s L) (hl : L.length ≤ 1000000) :
    Calls Try.prog 40 #[s] w fun e w' => ∃ v, e = .returned v ∧ POwn w' w.heap.size v L ∧ Below w.heap.size w w' := by
  obtain ⟨A, c, rfl, hm, hat⟩ := hs.open_
  have q22 : ∀ (w : World) (a : Option Addr) (n c n' c' : Nat), (binOp .eql 22 (.slice a n c) (.slice none n' c')).run Try.prog w = .ok (.bool a.isNone) w := fun w a n c n' c' => Go.Lib.run_eql_slice_nil w _ _ a n c n' c' Try.underlying22
  cases A with
  | none =>
    obtain rfl := propsNil hat
    go_enter Try.func40, Try.ntmps40
    go_wp2
    go_ret
    exact ⟨_, rfl, POwn.nil _ _, Below.refl _ _⟩
  | some A =>
    have Hc := Lib.hid (rprops_cells hat)
    go_enter Try.func40, Try.ntmps40
    go_wp2_with (
      at_builtin
      go_must (refine wpList_appendP rfl _ _ rfl (v := .slice (some ⟨w.heap.size, 0, none⟩) 0 0) rfl (POwn.lit0 w) A c L rfl (fun j u hu => ?hcell) (by simp; omega) (by simp) ?_)
      rotate_left 1
      intro v1 w3 hown1 hg1 hat1)
    case hcell =>
      have := Hc.out j u hu
      have hb := World.block_lt_of_cell? w _ this
      rw [World.cell?_alloc_lt _ _ _ hb]
      exact this
    go_ret
    exact ⟨v1, rfl, by simpa using hown1, (below_alloc _ _).grown hg1 (by simp) (fun k hk => by simp [Value.ownBlock] at hk; omega)⟩
set_option maxHeartbeats 1000000 in
theorem Put_any (s : Value) (L : PL) (n v : Bs) (w : World) (hs : RProps w (Lt w.heap.size) s L) (hl : L.length ≤ 1000000) :
    Calls Try.prog 28 #[s, sv n, sv v] w fun e w' => ∃ u, e = .returned u ∧ RProps w' (Lt w'.heap.size) u (putP L n v) ∧ Below w.heap.size w w' := by
  have H1 := Lib.hid (Clone_any s L w hs hl)
  obtain ⟨A, c, rfl, hm, hat⟩ := hs.open_
  clear hat hs
  go_enter Try.func28, Try.ntmps28
  go_wp2_with (go_at_call 40; with_reducible refine H1.out.mono ?_; rintro e w1 ⟨u1, rfl, ho, hb1⟩)
  have HO := Lib.hid ho
  have HB1 := Lib.hid hb1
  have H2 := Lib.hid (atL_any u1 L n w1 (props_of_own ho fun g hg => (POwn.lt ho g hg).2))
  clear ho hb1
  rcases putP_idx L n v with ⟨i, hi, hix, hin, hput⟩ | ⟨hix, hput⟩
  · rw [hix] at H2
    have Hput := Lib.hid hput
    have Hin := Lib.hid hin
    clear hix hput hin
    obtain ⟨g, cap, rfl, hg, -, -⟩ := HO.out.form (by omega)
    have hcap : i < L.length := hi
    go_wp2_with (go_at_call 39; with_reducible refine H2.out.mono ?_; rintro e w2 ⟨rfl, hb2⟩; have HB2 := Lib.hid hb2; clear hb2; obtain ⟨p1, f1⟩ := (HO.out.new HB2.out).at_ rfl hi)
    go_ret
    have hs1 := HB1.out.size
    have hs2 := HB2.out.size
    have HO3 := (HO.out.new HB2.out).set rfl hi v
    refine ⟨_, rfl, ?_, (HB1.out.trans (HB2.out.mono hs1)).setCell (p := ⟨g, i * 2 + 1, none⟩) hg _⟩
    rw [Hput.out, ← Hin.out]
    have h5 := props_of_own (S := Lt (w2.setCell ⟨g, i * 2 + 1, none⟩ (sv v)).heap.size) HO3 fun g hg => (HO3.lt g hg).2
    exact h5
  · rw [hix] at H2
    have Hput := Lib.hid hput
    clear hix hput
    obtain ⟨A, cap, rfl⟩ := HO.out.shape
    go_wp2_with (first
      | (go_at_call 39; with_reducible refine H2.out.mono ?_; rintro e w2 ⟨rfl, hb2⟩; have HB2 := Lib.hid hb2; clear hb2)
      | (at_builtin; refine wpList_pushP rfl _ _ rfl (v := .slice A L.length cap) rfl ((own_new HB2.out HO.out).alloc _) w2.heap.size (n, v) rfl (two_new _ _ _ _).1 (two_new _ _ _ _).2 (by omega) (by have := HB1.out.size; have := HB2.out.size; simp; omega) ?_; intro v1 w5 hown1 hg1 hat1))
    go_ret
    have hs1 := HB1.out.size
    have hs2 := HB2.out.size
    refine ⟨v1, rfl, ?_, ((HB1.out.trans (HB2.out.mono hs1)).alloc (by omega) _).grown hg1 (by simp; omega) (fun i hi => (HO.out.lt i hi).1)⟩
    rw [Hput.out]
    exact props_of_own hown1 fun g hg => (hown1.lt g hg).2
theorem box2c {w w1 : World} {a b : Value} {t u : TypeId} {cs : Array Value} {row : Option Nat} (hg : ((w.alloc (.cells #[a, b] t)).alloc (.cells cs u)).grownBy w1 row) (hr : ∀ g, row = some g → w.heap.size < g) :
    w1.heap[w.heap.size]? = some (.cells #[a, b] t (0, 0)) := by
  rw [hg.block w.heap.size (by simp; omega) (fun e => by have := hr _ e.symm; omega), Below.heap_alloc _ _ _ (by simp)]
  exact heap_alloc_new w _
theorem lits_own (w : World) (a b : Value) (t : TypeId) : POwn ((w.alloc (.cells #[a, b] t)).alloc (.cells #[] 42)) (w.heap.size + 1) (.slice (some ⟨w.heap.size + 1, 0, none⟩) 0 0) [] := by
  have := POwn.lit0 (w.alloc (.cells #[a, b] t))
  simpa using this
set_option maxHeartbeats 1000000 in
theorem RefPut_any (s : Value) (L : PL) (n v : Bs) (w : World) (hs : RProps w (Lt w.heap.size) s L) (hl : L.length ≤ 1000000) :
    Calls Try.prog 26 #[s, .agg #[sv n, sv v]] w fun e w' => ∃ u, e = .returned u ∧ RProps w' (Lt w'.heap.size) u (putP L n v) ∧ Below w.heap.size w w' := by
  obtain ⟨A, c, rfl, hm, hat⟩ := hs.open_
  have Hs := Lib.hid hs
  have HBa := Lib.hid (((below_alloc w (.cells #[sv n, sv v] 42)).alloc (by simp) (.cells #[] 42)))
  have HB0 := Lib.hid (show ((w.alloc (.cells #[sv n, sv v] 42)).alloc (.cells #[] 42)).heap[w.heap.size]? = _ from (Below.heap_alloc _ _ _ (by simp)).trans (heap_alloc_new w _))
  have HL := Lib.hid (lits_own w (sv n) (sv v) 42)
  clear hs
  cases A with
  | none =>
    obtain rfl := propsNil hat
    clear hat
    have Hs : Hid (RProps w (Lt w.heap.size) (.slice none 0 c) []) := Hs
    have H1 := Lib.hid (At_any _ [] n ((w.alloc (.cells #[sv n, sv v] 42)).alloc (.cells #[] 42)) (RProps.stable.up Hs.out HBa.out))
    have h1 : idxP [] n = -1 := rfl
    rw [h1] at H1
    clear h1
    go_enter Try.func26, Try.ntmps26
    go_wp2_with (first
      | (go_at_call 19; with_reducible refine H1.out.mono ?_; rintro e w2 ⟨rfl, hb2⟩; have HB2 := Lib.hid hb2; clear hb2; obtain ⟨x0, x1⟩ := two_cells ((HB2.out.block w.heap.size (by simp; omega)).trans (HB0.out)))
      | (at_builtin; refine wpList_pushP rfl _ _ rfl (v := .slice (some ⟨w.heap.size + 1, 0, none⟩) 0 0) rfl (POwn.alloc (HL.out.new HB2.out) _) w2.heap.size (n, v) rfl (two_new _ _ _ _).1 (two_new _ _ _ _).2 (by simp) (by have := HB2.out.size; simp at this; simp; omega) ?_; intro v1 w5 hown1 hg1 hat1))
    go_ret
    exact ⟨v1, rfl, props_of_own hown1 fun g hg => (hown1.lt g hg).2, ((HBa.out.trans (HB2.out.mono (by simp; omega))).alloc (by have := HB2.out.size; simp at this; omega) _).grown hg1 (by have := HB2.out.size; simp at this; simp; omega) (fun i hi => by simp [Value.ownBlock] at hi; omega)⟩
  | some A =>
    have Hc := Lib.hid (rprops_cells hat)
    clear hat
    rcases putP_idx L n v with ⟨i, hi, hix, hin, hput⟩ | ⟨hix, hput⟩
    · have Hput := Lib.hid hput
      have Hin := Lib.hid hin
      have Hix := Lib.hid hix
      clear hix hput hin
      go_enter Try.func26, Try.ntmps26
      go_wp2_with (first
        | (go_at_call 19; with_reducible refine (At_any _ L n w3 (RProps.stable.up Hs.out HB3.out)).mono ?_; rintro e w2 ⟨rfl, hb2⟩; rw [Hix.out]; have HB2 := Lib.hid hb2; clear hb2; obtain ⟨x0, x1⟩ := two_cells ((HB2.out.block w.heap.size (by have := HB3.out.size; have := HS3.out; omega)).trans (HX3.out)); obtain ⟨p1, f1⟩ := (HO3.out.new HB2.out).at_ rfl hi)
        | (at_builtin
           go_must (refine wpList_appendP rfl _ _ rfl (v := .slice (some ⟨w.heap.size + 1, 0, none⟩) 0 0) rfl HL.out A c L rfl (fun j u hu => by
             have := Hc.out j u hu
             have hb := World.block_lt_of_cell? w _ this
             rw [World.cell?_alloc_lt _ _ _ (by simp; omega), World.cell?_alloc_lt _ _ _ hb]
             exact this) (by simp; omega) (by simp) ?_)
           intro v1 w3 hown1 hg1 hat1
           have HX3 := Lib.hid (box2c hg1 (fun g hg => by simp [Value.ownBlock] at hg; omega))
           obtain ⟨y0, y1⟩ := two_cells HX3.out
           have HB3 := Lib.hid (HBa.out.grown hg1 (by simp; omega) (fun g hg => by simp [Value.ownBlock] at hg; omega))
           have HS3 := Lib.hid (show w.heap.size < w3.heap.size by have := hg1.size; simp at this; omega)
           have hown2 := (show POwn w3 (w.heap.size + 1) v1 L by simpa using hown1)
           obtain ⟨g, cap, rfl, hg, -, -⟩ := hown2.form (by omega)
           have HO3 := Lib.hid hown2
           clear hown1 hown2 hg1 hat1))
      go_ret
      have HO4 := (HO3.out.new HB2.out).set rfl hi v
      have hs3 := HS3.out
      refine ⟨_, rfl, ?_, (HB3.out.trans (HB2.out.mono (by omega))).setCell (p := ⟨g, i * 2 + 1, none⟩) (show w.heap.size ≤ g by omega) _⟩
      rw [Hput.out, ← Hin.out]
      have h5 := props_of_own (S := Lt (w2.setCell ⟨g, i * 2 + 1, none⟩ (sv v)).heap.size) HO4 fun g hg => (HO4.lt g hg).2
      exact h5
    · have Hput := Lib.hid hput
      have Hix := Lib.hid hix
      clear hix hput
      go_enter Try.func26, Try.ntmps26
      go_wp2_with (first
        | (go_at_call 19; with_reducible refine (At_any _ L n w3 (RProps.stable.up Hs.out HB3.out)).mono ?_; rintro e w2 ⟨rfl, hb2⟩; rw [Hix.out]; have HB2 := Lib.hid hb2; clear hb2; obtain ⟨x0, x1⟩ := two_cells ((HB2.out.block w.heap.size (by have := HB3.out.size; have := HS3.out; omega)).trans (HX3.out)))
        | (at_builtin; refine wpList_pushP rfl _ _ rfl (v := .slice A1 L.length cap) rfl ((HO3.out.new HB2.out).alloc _) w2.heap.size (n, v) rfl (two_new _ _ _ _).1 (two_new _ _ _ _).2 (by omega) (by have := HB2.out.size; have := HS3.out; simp; omega) ?_; intro v4 w5 hown4 hg4 hat4)
        | (at_builtin
           go_must (refine wpList_appendP rfl _ _ rfl (v := .slice (some ⟨w.heap.size + 1, 0, none⟩) 0 0) rfl HL.out A c L rfl (fun j u hu => by
             have := Hc.out j u hu
             have hb := World.block_lt_of_cell? w _ this
             rw [World.cell?_alloc_lt _ _ _ (by simp; omega), World.cell?_alloc_lt _ _ _ hb]
             exact this) (by simp; omega) (by simp) ?_)
           intro v1 w3 hown1 hg1 hat1
           have HX3 := Lib.hid (box2c hg1 (fun g hg => by simp [Value.ownBlock] at hg; omega))
           obtain ⟨y0, y1⟩ := two_cells HX3.out
           have HB3 := Lib.hid (HBa.out.grown hg1 (by simp; omega) (fun g hg => by simp [Value.ownBlock] at hg; omega))
           have HS3 := Lib.hid (show w.heap.size < w3.heap.size by have := hg1.size; simp at this; omega)
           have hown2 := (show POwn w3 (w.heap.size + 1) v1 L by simpa using hown1)
           obtain ⟨A1, cap, rfl⟩ := hown2.shape
           have HO3 := Lib.hid hown2
           clear hown1 hown2 hg1 hat1))
      go_ret
      have hs3 := HS3.out
      have hs2 := HB2.out.size
      refine ⟨v4, rfl, ?_, ((HB3.out.trans (HB2.out.mono (by omega))).alloc (by omega) _).grown hg4 (by simp; omega) (fun i hi => by have := (HO3.out.lt i hi).1; omega)⟩
      rw [Hput.out]
      exact props_of_own hown4 fun g hg => (hown4.lt g hg).2
end Go.Proofs.Ytpgdioopkcfjdaa
