/- The reference's ParseAnswer. -/
import Derived.Test.YtgfbmidpiamkhaaDoorQAnW4
import Derived.Test.YtgfbmidpiamkhaaDoorQDiR4
namespace Go.Proofs.YtgfbmidpiamkhaaDoor
open Go.RowKit
open C01 D28

def RefAnsPost (a : Bs) (w : World) (e : Ending) (w' : World) : Prop :=
  Below w.heap.size w w' ∧ match aR a with
  | (some (E, T), _) => ∃ v, e = .returned (.tuple #[.agg #[.int .i64 (E : Nat), v, .slice none 0 0, .int .i64 0], .int .i64 0]) ∧ RBools w' (Lt w'.heap.size) v T
  | (none, n) => e = .returned (.tuple #[zA, .int .i64 (n : Nat)])
theorem refans_results (tmps : Array Value) (w : World) {xb : Nat} {n x0 : Int} {v : Value} (h : w.heap[xb]? = some (.cells #[.int .i64 x0, v, .slice none 0 0, .int .i64 0] 47 (0, 0))) (h2 : tmps.getD 2 undef = .pointer (some ⟨xb, 0, none⟩)) (h3 : tmps.getD 3 undef = .int .i64 n) :
    (results Tryd.f20 tmps).run Tryd.prog w = .ok (.tuple #[.agg #[.int .i64 x0, v, .slice none 0 0, .int .i64 0], .int .i64 n]) w := by
  have g0 := cell_of_row _ _ 0 _ _ (0, 0) h
  have g1 := cell_of_row _ _ 1 _ _ (0, 0) h
  have g2 := cell_of_row _ _ 2 _ _ (0, 0) h
  have g3 := cell_of_row _ _ 3 _ _ (0, 0) h
  simp at h2 h3
  simp [results, Tryd.results20, go_sem, h2, h3, g0, g1, g2, g3]
def OkI (i : Nat) (s : AS) : Prop := (i = 0 ∧ s = ⟨0, none⟩) ∨ (i = 1 ∧ s.e ≠ 0 ∧ s.t = none) ∨ (2 ≤ i ∧ s.e = 1 ∧ s.t ≠ none)
/-- what is in memory between two rounds -/
structure RA (w0 w : World) (rb ab : Nat) (v : Value) (E : Nat) (T : List Bool) : Prop where
  own : w.ownsRow w0.heap.size 4 1 v T.length (T.map bV)
  ans : w.heap[ab]? = some (.cells #[.int .i64 (E : Nat), v, .slice none 0 0, .int .i64 0] 47 (0, 0))
  res : w.heap[rb]? = some (.cells #[.int .i64 0, .slice none 0 0, .slice none 0 0, .int .i64 0] 47 (0, 0))
  bel : Below w0.heap.size w0 w
theorem RA.up {w0 w w' : World} {rb ab : Nat} {v : Value} {E : Nat} {T : List Bool} (h : RA w0 w rb ab v E T) (hb : Below w.heap.size w w') : RA w0 w' rb ab v E T :=
  ⟨own_ag h.own fun g hg => hb.block g (h.own.lt g hg).2, (hb.block ab (Array.getElem?_eq_some_iff.1 h.ans).1).trans h.ans, (hb.block rb (Array.getElem?_eq_some_iff.1 h.res).1).trans h.res, h.bel.trans (hb.mono h.bel.size)⟩
theorem RA.setE {w0 w : World} {rb ab : Nat} {v : Value} {E : Nat} {T : List Bool} (h : RA w0 w rb ab v E T) (hab : w0.heap.size ≤ ab) (hra : rb ≠ ab) (E' : Nat) : RA w0 (w.setCell ⟨ab, 0, none⟩ (.int .i64 (E' : Nat))) rb ab v E' T :=
  ⟨own_ag h.own fun g hg => Below.heap_setCell w ⟨ab, 0, none⟩ _ g fun e => by
      have e' : g = ab := e
      subst e'
      obtain ⟨q, hq⟩ := own_obj h.own hg
      rw [h.ans] at hq
      exact absurd (Obj.cells.inj (Option.some.inj hq)).2.1 (by decide),
    heap_setCell_same _ ab 0 _ _ _ h.ans, (Below.heap_setCell w ⟨ab, 0, none⟩ _ rb hra).trans h.res, h.bel.setCell (p := ⟨ab, 0, none⟩) hab _⟩
theorem RA.wrong {w w0 wx : World} {rb ab : Nat} {v : Value} {E : Nat} {T : List Bool} (h : RA w0 wx rb ab v E T) (hb : Below w.heap.size w w0) (hr : w.heap.size ≤ rb) (y0 y1 y2 y3 : Value) : Below w.heap.size w ((((wx.setCell ⟨rb, 0, none⟩ y0).setCell ⟨rb, 1, none⟩ y1).setCell ⟨rb, 2, none⟩ y2).setCell ⟨rb, 3, none⟩ y3) :=
  ((((hb.trans (h.bel.mono hb.size)).setCell (p := ⟨rb, 0, none⟩) hr _).setCell (p := ⟨rb, 1, none⟩) hr _).setCell (p := ⟨rb, 2, none⟩) hr _).setCell (p := ⟨rb, 3, none⟩) hr _
theorem eBool : Elem1 Tryd.prog 45 4 1 := elem1_mk (z := .bool false) Tryd.underlying45 (by kernel_rfl) (by omega) rfl
theorem RA.push {w0 w w5 : World} {rb ab : Nat} {v v' : Value} {E : Nat} {T : List Bool} {b : Bool} (h : RA w0 w rb ab v E T) (hab : w0.heap.size ≤ ab) (hra : rb ≠ ab) {w1 : World} (hb : Below w.heap.size w w1) (hown : w5.ownsRow w0.heap.size 4 1 v' (T.length + 1) (T.map bV ++ [bV b])) (hg : w1.grownBy w5 v.ownBlock) (hat : v'.ownBlock = v.ownBlock ∨ v'.ownBlock = some w1.heap.size) :
    RA w0 (w5.setCell ⟨ab, 1, none⟩ v') rb ab v' E (T ++ [b]) := by
  have hal := (Array.getElem?_eq_some_iff.1 h.ans).1
  have hrl := (Array.getElem?_eq_some_iff.1 h.res).1
  have hs := hb.size
  have key : ∀ (x : Nat) (c : Array Value), w.heap[x]? = some (.cells c 47 (0, 0)) → x < w.heap.size → w5.heap[x]? = w.heap[x]? := fun x c hx hl => (hg.block x (by omega) fun e => by
    obtain ⟨q, hq⟩ := own_obj h.own e.symm
    rw [hx] at hq
    exact absurd (Obj.cells.inj (Option.some.inj hq)).2.1 (by decide)).trans (hb.block x hl)
  have ha5 := (key ab _ h.ans hal).trans h.ans
  refine ⟨?_, heap_setCell_same _ ab 1 _ _ _ ha5, (Below.heap_setCell w5 ⟨ab, 1, none⟩ _ rb hra).trans ((key rb _ h.res hrl).trans h.res), ((h.bel.trans (hb.mono h.bel.size)).grown hg (Nat.le_trans h.bel.size hs) fun q hq => (h.own.lt q hq).1).setCell (p := ⟨ab, 1, none⟩) hab _⟩
  have hown' : w5.ownsRow w0.heap.size 4 1 v' (T ++ [b]).length ((T ++ [b]).map bV) := by simpa using hown
  exact own_ag hown' fun g hg' => Below.heap_setCell w5 ⟨ab, 1, none⟩ _ g fun e => by
    have e' : g = ab := e
    subst e'
    rcases hat with h0 | h0
    · rw [h0] at hg'
      obtain ⟨q, hq⟩ := own_obj h.own hg'
      rw [h.ans] at hq
      exact absurd (Obj.cells.inj (Option.some.inj hq)).2.1 (by decide)
    · rw [h0] at hg'; cases hg'; omega
theorem wpList_pushRA {ops : Array Oper} {rest : List Oper} {o : Oper} {a : Act} {Q : Exit → Act → World → Prop} {w0 w : World} {rb ab Pb : Nat} {A5 : Option Addr} {c5 E : Nat} {T : List Bool} {b : Bool} {cs : Array Value}
    (H : RA w0 w rb ab (.slice A5 T.length c5) E T) (HC : w.heap[Pb]? = some (.cells cs 75 (0, 0))) (hab : w0.heap.size ≤ ab) (hra : rb ≠ ab) (hT : T.length ≤ 2001)
    (hgd : o.guard = none) (s x : Operand) (ho : o.op = .call { callee := .builtin .append, args := #[s, x], argTypes := #[45, 45] })
    (hs : a.eval s = .slice A5 T.length c5) (hx : a.eval x = .slice (some ⟨w.heap.size, 0, none⟩) 1 1)
    (h : ∀ A6 c6 w5, Hid (RA w0 (w5.setCell ⟨ab, 1, none⟩ (.slice A6 (T.length + 1) c6)) rb ab (.slice A6 (T.length + 1) c6) E (T ++ [b])) → w5.cell? ⟨ab, 1, none⟩ = some (.slice A5 T.length c5) → w5.frozen? ⟨ab, 1, none⟩ = false → Hid (w5.heap[Pb]? = some (.cells cs 75 (0, 0))) → wpList Tryd.prog ops Q rest (a.put o.dst (.slice A6 (T.length + 1) c6)) w5) :
    wpList Tryd.prog ops Q (o :: rest) a (w.alloc (.cells #[.bool b] 4)) := by
  have hw : w0.heap.size ≤ w.heap.size := H.bel.size
  have hak := (Array.getElem?_eq_some_iff.1 H.ans).1
  have hPk := (Array.getElem?_eq_some_iff.1 HC).1
  refine wpList_push hgd s x _ ho eBool (v := .slice A5 T.length c5) hs (World.ownsRow.alloc H.own _) w.heap.size (.bool b) hx (by rw [cell_of_row _ _ 0 _ _ _ (heap_alloc_new w _)]; rfl) rfl (by omega) (by simp; omega) ?_
  intro v1 w5 hown hg hat
  obtain ⟨A6, c6, rfl⟩ := own_shape hown
  have hb := below_alloc w (.cells #[bV b] 4)
  have H5 := H.push hab hra hb hown hg hat
  have hne : ∀ (x : Nat) (c : Array Value) (t : TypeId), w.heap[x]? = some (.cells c t (0, 0)) → t ≠ 4 → some x ≠ (Value.slice A5 T.length c5).ownBlock := fun x c t hx ht e => (by obtain ⟨q0, hq0⟩ := own_obj H.own e.symm; rw [hx] at hq0; exact ht (Obj.cells.inj (Option.some.inj hq0)).2.1)
  have ha5 := (hg.block ab (by simp; omega) (hne ab _ _ H.ans (by decide))).trans ((hb.block ab hak).trans H.ans)
  have HC5 := (hg.block Pb (by simp; omega) (hne Pb _ _ HC (by decide))).trans ((hb.block Pb hPk).trans HC)
  exact h A6 c6 w5 (Lib.hid H5) (cell_of_row _ _ 1 _ _ _ ha5) (frozen_of_row _ _ 1 _ _ ha5) (Lib.hid HC5)
theorem neg_ne (j : Nat) : (-((j : Int) + 1)) ≠ (j : Int) + 1 := by omega
theorem wrap_jj {j : Nat} (h : j < 100000) : IntKind.i64.wrap ((j : Int) + 1 + 1) = (j : Int) + 1 + 1 := by rw [IntKind.wrap_i64]; omega
theorem RA.final {w0 wx : World} {rb ab : Nat} {v : Value} {E : Nat} {T : List Bool} (h : RA w0 wx rb ab v E T) (y0 y1 y2 y3 : Value) : RBools ((((wx.setCell ⟨rb, 0, none⟩ y0).setCell ⟨rb, 1, none⟩ y1).setCell ⟨rb, 2, none⟩ y2).setCell ⟨rb, 3, none⟩ y3) (Lt ((((wx.setCell ⟨rb, 0, none⟩ y0).setCell ⟨rb, 1, none⟩ y1).setCell ⟨rb, 2, none⟩ y2).setCell ⟨rb, 3, none⟩ y3).heap.size) v T := by
  have hne : ∀ g, v.ownBlock = some g → g ≠ rb := fun g hg e => by
    subst e
    obtain ⟨q, hq⟩ := own_obj h.own hg
    rw [h.res] at hq
    exact absurd (Obj.cells.inj (Option.some.inj hq)).2.1 (by decide)
  have ho := own_ag h.own (w' := (((wx.setCell ⟨rb, 0, none⟩ y0).setCell ⟨rb, 1, none⟩ y1).setCell ⟨rb, 2, none⟩ y2).setCell ⟨rb, 3, none⟩ y3) fun g hg => (Below.heap_setCell _ ⟨rb, 3, none⟩ _ g (hne g hg)).trans ((Below.heap_setCell _ ⟨rb, 2, none⟩ _ g (hne g hg)).trans ((Below.heap_setCell _ ⟨rb, 1, none⟩ _ g (hne g hg)).trans (Below.heap_setCell _ ⟨rb, 0, none⟩ _ g (hne g hg))))
  exact bools_of_own ho fun g hg => (World.ownsRow.lt ho g hg).2
def tabE (e : Nat) : Bs := if e = 1 then satB else if e = 2 then unsatB else unkB
theorem endW_tab {x y : Bs} {e : Nat} (h1 : 1 ≤ e) (h3 : e ≤ 3) : endW [x, y] = e ↔ x = [115] ∧ y = tabE e := by
  show (if x = [115] then endB y else 0) = e ↔ _
  by_cases hx : x = [115]
  · rw [if_pos hx]
    have a1 : satB ≠ unsatB := by decide
    have a2 : satB ≠ unkB := by decide
    have a3 : unsatB ≠ unkB := by decide
    have t1 : tabE 1 = satB := rfl
    have t2 : tabE 2 = unsatB := rfl
    have t3 : tabE 3 = unkB := rfl
    have h : e = 1 ∨ e = 2 ∨ e = 3 := by omega
    unfold endB
    rcases h with rfl | rfl | rfl
    · rw [t1]
      refine ⟨fun h => ⟨hx, ?_⟩, fun h => by rw [if_pos h.2]⟩
      by_cases e1 : y = satB
      · exact e1
      · rw [if_neg e1] at h; split at h
        · omega
        · split at h <;> omega
    · rw [t2]
      refine ⟨fun h => ⟨hx, ?_⟩, fun h => by rw [h.2, if_neg a1.symm, if_pos rfl]⟩
      by_cases e1 : y = satB
      · rw [if_pos e1] at h; omega
      · rw [if_neg e1] at h; split at h
        · assumption
        · split at h <;> omega
    · rw [t3]
      refine ⟨fun h => ⟨hx, ?_⟩, fun h => by rw [h.2, if_neg a2.symm, if_neg a3.symm, if_pos rfl]⟩
      by_cases e1 : y = satB
      · rw [if_pos e1] at h; omega
      · rw [if_neg e1] at h; split at h
        · omega
        · split at h
          · assumption
          · omega
  · rw [if_neg hx]
    exact ⟨fun h => by omega, fun h => absurd h.1 hx⟩
theorem endW_le (W : List Bs) : endW W ≤ 3 := by
  unfold endW
  split
  · split
    · unfold endB; split <;> (try split) <;> (try split) <;> omega
    · omega
  · omega
theorem endW_len {W : List Bs} (h : W.length ≠ 2) : endW W = 0 := by
  unfold endW
  split
  · exact absurd rfl h
  · rfl
set_option maxRecDepth 100000 in
set_option maxHeartbeats 8000000 in
theorem refParseAnswer_any (a : Bs) (w : World) (ha : a.length ≤ 2000) : Calls Tryd.prog 20 #[sv a] w (RefAnsPost a w) := by
  have HLs := Lib.hid (fun w => refLines_any a w (by omega))
  have HPr := Lib.hid (fun a w => Parsed_any a w)
  obtain ⟨rb, hrb⟩ : ∃ rb, rb = w.heap.size := ⟨_, rfl⟩
  have Hrb := Lib.hid hrb
  obtain ⟨w1, hw1⟩ : ∃ w1, w1 = w.alloc (.cells #[.int .i64 0, .slice none 0 0, .slice none 0 0, .int .i64 0] 47) := ⟨_, rfl⟩
  have Hw1 := Lib.hid hw1
  have Hr1 := Lib.hid (show w1.heap[rb]? = some (.cells #[.int .i64 0, .slice none 0 0, .slice none 0 0, .int .i64 0] 47 (0, 0)) by rw [hw1, hrb]; exact heap_alloc_new _ _)
  have Hb1 := Lib.hid (show Below w.heap.size w w1 by rw [hw1]; exact below_alloc _ _)
  obtain ⟨L, hL⟩ : ∃ L, L = linesOf a := ⟨_, rfl⟩
  have hcnt := lines_count a
  have hwds : ∀ x ∈ L, x.2.length ≤ 2001 ∧ x.2 ≠ [] := fun x hx => by rw [hL] at hx; exact ⟨by have := (lines_words hx).1; omega, (lines_words hx).2⟩
  rw [← hL] at hcnt
  have HWd := Lib.hid hwds
  have HL := Lib.hid hL
  clear hrb hw1 hL hwds
  go_enter Tryd.func20, Tryd.ntmps20
  rw [satB_eq, unsatB_eq, unkB_eq, sB_eq, vB_eq, zB_eq]
  go_upto_region 2 with (go_at_call 15; rw [← Hw1.out, ← Hrb.out]; refine (HLs.out _).mono ?_; rintro e w2 ⟨vl, rfl, hvl, hb2⟩; have HVl := Lib.hid hvl; have HB2 := Lib.hid hb2; clear hvl hb2)
  rw [← HL.out] at HVl
  obtain ⟨Al, cl, rfl, hml, hat⟩ := RArr.open_ HVl.out
  have Hat := Lib.hid hat
  obtain ⟨ab, hab⟩ : ∃ ab, ab = w2.heap.size := ⟨_, rfl⟩
  have Hab := Lib.hid hab
  obtain ⟨w3, hw3⟩ : ∃ w3, w3 = w2.alloc (.cells #[.int .i64 0, .slice none 0 0, .slice none 0 0, .int .i64 0] 47) := ⟨_, rfl⟩
  have Hw3 := Lib.hid hw3
  have hb3 : Below w2.heap.size w2 w3 := by rw [hw3]; exact below_alloc _ _
  have HRA := Lib.hid (show RA w2 w3 rb ab (.slice none 0 0) 0 [] from ⟨World.ownsRow_nil _ _ _ _, by rw [hw3, hab]; exact heap_alloc_new _ _, (hb3.block rb (by rw [Hrb.out]; have := HB2.out.size; have h2 := (Array.getElem?_eq_some_iff.1 Hr1.out).1; rw [Hrb.out] at h2; omega)).trans ((HB2.out.block rb (Array.getElem?_eq_some_iff.1 Hr1.out).1).trans Hr1.out), hb3⟩)
  have HBw := Lib.hid (show Below w.heap.size w w2 from Hb1.out.trans (HB2.out.mono Hb1.out.size))
  have hrw : w.heap.size ≤ rb := Nat.le_of_eq Hrb.out.symm
  have hab2 : w2.heap.size ≤ ab := Nat.le_of_eq Hab.out.symm
  have HAt3 := Lib.hid (show RAtV 2 VLn w3 (Lt w3.heap.size) Al L from hat.agree VLn.stable (ag_of_below hb3) fun b h => Nat.lt_of_lt_of_le h hb3.size)
  have hra : rb ≠ ab := by have := (Array.getElem?_eq_some_iff.1 Hr1.out).1; have h2 := HB2.out.size; omega
  obtain ⟨N, hN⟩ : ∃ N, N = L.length := ⟨_, rfl⟩
  have HN := Lib.hid hN
  have hNs : N ≤ 2001 := by omega
  rw [← hN] at hml ⊢
  clear hat hab hw3 hb3 hN hcnt
  go_wp2_with fail
  rw [← Hab.out, ← Hw3.out]
  go_loopw [22] (fun iv wr => ∃ (i : Nat) (s : AS) (v : Value), i ≤ N ∧ iv = .int .i64 i ∧ Hid (linesA .start (L.take i) = (some s, 0)) ∧ Hid (OkI i s) ∧ Hid (RA w2 wr rb ab v s.e (s.t.getD []))) (fun iv _ => N - (intOf iv).toNat)
  case atStart => exact ⟨0, ⟨0, none⟩, _, Nat.zero_le _, rfl, Lib.hid rfl, Lib.hid (.inl ⟨rfl, rfl⟩), HRA⟩
  case round =>
    obtain ⟨wi, hwi⟩ : ∃ w0 : World, w0 = wr := ⟨_, rfl⟩
    rw [← hwi] at hrel ⊢
    clear hwi
    obtain ⟨i, s, v, hi, rfl, HLA, HOK, HRi⟩ := hrel
    rcases Nat.lt_or_ge i N with hlt | hge
    · have hltL : i < L.length := by rw [← HN.out]; exact hlt
      obtain ⟨b, off, rfl, hb, hx0, u, hx1, hu⟩ := Hat.out.at_ VLn.stable (ag_of_below HRi.out.bel) hltL
      obtain ⟨A2, c2, rfl, hm2, hat2⟩ := hu.open_
      obtain ⟨hq3, hWne⟩ := HWd.out _ (List.getElem_mem hltL)
      have Hsucc := Lib.hid (linesA_succ hltL HLA.out)
      obtain ⟨W, hW⟩ : ∃ ws, ws = L[i].2 := ⟨_, rfl⟩
      obtain ⟨n, hn⟩ : ∃ n, n = L[i].1 := ⟨_, rfl⟩
      rw [← hW] at hx1 hm2 hat2 hq3 hWne Hsucc
      rw [← hn] at hx0 Hsucc
      have HBad := Lib.hid (show astep s W = none → ∀ w', Below w.heap.size w w' → RefAnsPost a w (.returned (.tuple #[zA, .int .i64 (n : Nat)])) w' from fun h w' hb' => by
        have h1 := Hsucc.out
        rw [h] at h1
        have h2 := linesA_bad (n := n) h1
        refine ⟨hb', ?_⟩
        unfold aR
        rw [← HL.out, h2])
      obtain ⟨b2, off2, rfl, hb2, hcs⟩ := hat2 (List.length_pos_iff.2 hWne)
      have hb2' : b2 < w2.heap.size := hb2
      have Hcs := Lib.hid (show ∀ wz, Below w2.heap.size w2 wz → ∀ k (h : k < W.length), wz.cell? ⟨b2, off2 + k, none⟩ = some (sv W[k]) from fun wz hz k h => by
        obtain ⟨u, hu1, rfl⟩ := hcs k h
        exact ((ag2 (ag_of_below HRi.out.bel) (ag_of_below hz)).cell (p := ⟨b2, off2 + k, none⟩) hb2).trans hu1)
      obtain ⟨q, hq⟩ : ∃ q, q = W.length := ⟨_, rfl⟩
      have Hq := Lib.hid hq
      have HWne := Lib.hid hWne
      rw [← hq] at hx1 hm2 hq3
      obtain ⟨P, hP⟩ : ∃ P, P = wi.heap.size := ⟨_, rfl⟩
      have HP := Lib.hid hP
      obtain ⟨wp, hwp⟩ : ∃ w1, w1 = wi.alloc (.cells #[.int .i64 (n : Nat), .slice (some ⟨b2, off2, none⟩) q c2] 75) := ⟨_, rfl⟩
      have Hwp := Lib.hid hwp
      have hbp : Below wi.heap.size wi wp := by rw [hwp]; exact below_alloc _ _
      have HRp := Lib.hid (HRi.out.up hbp)
      have HC := Lib.hid (show wp.heap[P]? = some (.cells #[.int .i64 (n : Nat), .slice (some ⟨b2, off2, none⟩) q c2] 75 (0, 0)) by rw [hwp, hP]; exact heap_alloc_new _ _)
      have hPa : P ≠ ab := by rw [hP]; have := (Array.getElem?_eq_some_iff.1 HRi.out.ans).1; omega
      have hPr : P ≠ rb := by rw [hP]; have := (Array.getElem?_eq_some_iff.1 HRi.out.res).1; omega
      clear hu hat2 hW hn hq hwp hP hb hcs hbp hWne hb2
      by_cases hi0 : i = 0
      · subst hi0
        obtain rfl : s = ⟨0, none⟩ := by
          rcases HOK.out with h | h | h
          · exact h.2
          · omega
          · omega
        dsimp only at HRp
        simp only [Nat.zero_mul, Nat.add_zero] at hx0 hx1
        obtain ⟨wq, hwq⟩ : ∃ w1, w1 = wp.alloc (.cells #[.string ⟨#[]⟩, sv satB, sv unsatB, sv unkB] 9) := ⟨_, rfl⟩
        have Hwq := Lib.hid hwq
        have hbq : Below wp.heap.size wp wq := by rw [hwq]; exact below_alloc _ _
        have HRq := Lib.hid (HRp.out.up hbq)
        have HCq := Lib.hid ((hbq.block P (Array.getElem?_eq_some_iff.1 HC.out).1).trans HC.out)
        have hps : wp.heap.size = P + 1 := by rw [Hwp.out, HP.out]; simp
        have HT := Lib.hid (show wq.heap[P + 1]? = some (.cells #[.string ⟨#[]⟩, sv satB, sv unsatB, sv unkB] 9 (0, 0)) by rw [hwq, ← hps]; exact heap_alloc_new _ _)
        have hQa : P + 1 ≠ ab := by have := (Array.getElem?_eq_some_iff.1 HRp.out.ans).1; omega
        clear hwq hbq hps
        go_upto_region 8 with fail
        rw [← HP.out, ← Hwp.out, ← Hwq.out]
        go_wp2_with fail
        go_loopw [10] (fun jv wr => ∃ e : Nat, 1 ≤ e ∧ e ≤ 4 ∧ jv = .int .i64 e ∧ Hid (RA w2 wr rb ab v (if endW W < e then endW W else 0) []) ∧ Hid (wr.heap[P]? = some (.cells #[.int .i64 (n : Nat), .slice (some ⟨b2, off2, none⟩) q c2] 75 (0, 0))) ∧ Hid (wr.heap[P + 1]? = some (.cells #[.string ⟨#[]⟩, sv satB, sv unsatB, sv unkB] 9 (0, 0)))) (fun jv _ => 4 - (intOf jv).toNat)
        case atStart => exact ⟨1, Nat.le_refl _, by omega, rfl, Lib.hid (by rw [show (if endW W < 1 then endW W else 0) = 0 by split <;> omega]; exact HRq.out), HCq, HT⟩
        case round =>
          obtain ⟨wk, hwk⟩ : ∃ w0 : World, w0 = wr := ⟨_, rfl⟩
          rw [← hwk] at hrel ⊢
          clear hwk
          obtain ⟨e, he1, he4, rfl, HRk, HCk, HTk⟩ := hrel
          have p0 : wk.cell? ⟨P, 0, none⟩ = some (.int .i64 (n : Nat)) := cell_of_row _ _ 0 _ _ _ HCk.out
          have p1 : wk.cell? ⟨P, 1, none⟩ = some (.slice (some ⟨b2, off2, none⟩) q c2) := cell_of_row _ _ 1 _ _ _ HCk.out
          by_cases he : e ≤ 3
          · have hct : wk.cell? ⟨P + 1, e, none⟩ = some (sv (tabE e)) := by
              refine (cell_of_row _ _ e _ _ _ HTk.out).trans ?_
              have h : e = 1 ∨ e = 2 ∨ e = 3 := by omega
              rcases h with rfl | rfl | rfl <;> rfl
            have HNo := Lib.hid (show endW W ≠ e → Hid (RA w2 wk rb ab v (if endW W < e + 1 then endW W else 0) []) from fun h => Lib.hid (by
              have h1 := HRk.out
              rwa [show (if endW W < e then endW W else 0) = (if endW W < e + 1 then endW W else 0) by split <;> split <;> omega] at h1))
            have hi3 : (e : Int) ≤ 3 := by omega
            have hi0' : (0 : Int) ≤ (e : Int) := by omega
            have hi4 : (e : Int) < 4 := by omega
            by_cases hq2 : q = 2
            · obtain ⟨x, y, rfl⟩ : ∃ x y, W = [x, y] := by
                have h2 : W.length = 2 := by rw [← Hq.out]; exact hq2
                match W, h2 with
                | [x, y], _ => exact ⟨x, y, rfl⟩
              have c0 : wk.cell? ⟨b2, off2, none⟩ = some (sv x) := Hcs.out wk HRk.out.bel 0 (by simp)
              have c1 : wk.cell? ⟨b2, off2 + 1, none⟩ = some (sv y) := Hcs.out wk HRk.out.bel 1 (by simp)
              have HIff := Lib.hid (endW_tab (x := x) (y := y) he1 he)
              have hl2 : ((q : Int) == 2) = true := by rw [hq2]; rfl
              have hq1 : (1 : Int) < (q : Int) := by omega
              have hq0 : (0 : Int) < (q : Int) := by omega
              clear hq2
              by_cases hx : x = [115]
              · have k1 := eq_yes hx
                by_cases hy : y = tabE e
                · have k2 := eq_yes hy
                  have hE : endW [x, y] = e := HIff.out.2 ⟨hx, hy⟩
                  have HE := Lib.hid hE
                  have a0 := cell_of_row _ _ 0 _ _ _ HRk.out.ans
                  have f0 := frozen_of_row _ _ 0 _ _ HRk.out.ans
                  clear hx hy hE
                  go_wp2
                  go_quiet (fail)
                  go_wp2
                  go_roundw
                  case rel => exact ⟨e + 1, by omega, by omega, by go_num, Lib.hid (by rw [HE.out, if_pos (by omega)]; exact (HRk.out.up (below_drewN (Below.refl _ _) _)).setE hab2 hra e), Lib.hid ((Below.heap_setCell _ ⟨ab, 0, none⟩ _ P hPa).trans HCk.out), Lib.hid ((Below.heap_setCell _ ⟨ab, 0, none⟩ _ (P + 1) hQa).trans HTk.out)⟩
                  case measure => simp [intOf]; omega
                · have k2 := eq_no hy
                  have hE : endW [x, y] ≠ e := fun h => hy (HIff.out.1 h).2
                  have HN2 := Lib.hid (HNo.out hE)
                  clear hx hy hE
                  go_wp2
                  go_quiet (fail)
                  go_wp2
                  go_roundw
                  case rel => exact ⟨e + 1, by omega, by omega, by go_num, Lib.hid (HN2.out.out.up (below_drewN (Below.refl _ _) _)), Lib.hid HCk.out, Lib.hid HTk.out⟩
                  case measure => simp [intOf]; omega
              · have k1 := eq_no hx
                have hE : endW [x, y] ≠ e := fun h => hx (HIff.out.1 h).1
                have HN2 := Lib.hid (HNo.out hE)
                clear hx hE
                go_wp2
                go_quiet (fail)
                go_wp2
                go_roundw
                case rel => exact ⟨e + 1, by omega, by omega, by go_num, Lib.hid (HN2.out.out.up (below_drewN (Below.refl _ _) _)), Lib.hid HCk.out, Lib.hid HTk.out⟩
                case measure => simp [intOf]; omega
            · have hl2 : ((q : Int) == 2) = false := by rw [beq_eq_false_iff_ne]; omega
              have hE : endW W ≠ e := by rw [endW_len (by rw [← Hq.out]; exact hq2)]; omega
              have HN2 := Lib.hid (HNo.out hE)
              clear hE hq2
              go_wp2
              go_quiet (fail)
              go_wp2
              go_roundw
              case rel => exact ⟨e + 1, by omega, by omega, by go_num, Lib.hid (HN2.out.out.up (below_drewN (Below.refl _ _) _)), Lib.hid HCk.out, Lib.hid HTk.out⟩
              case measure => simp [intOf]; omega
          · obtain rfl : e = 4 := by omega
            have hEl := endW_le W
            have HR4 := Lib.hid (show RA w2 wk rb ab v (endW W) [] by have h1 := HRk.out; rwa [if_pos (by omega)] at h1)
            have a0 := cell_of_row _ _ 0 _ _ _ HR4.out.ans
            by_cases hE : endW W = 0
            · have HPB := Lib.hid (HBad.out (by simp [astep, hE]))
              have HRx := Lib.hid (HR4.out)
              have r0 := cell_of_row _ _ 0 _ _ _ HRx.out.res
              have g0 := frozen_of_row _ _ 0 _ _ HRx.out.res
              have r1 := cell_of_row _ _ 1 _ _ _ HRx.out.res
              have g1 := frozen_of_row _ _ 1 _ _ HRx.out.res
              have r2 := cell_of_row _ _ 2 _ _ _ HRx.out.res
              have g2 := frozen_of_row _ _ 2 _ _ HRx.out.res
              have r3 := cell_of_row _ _ 3 _ _ _ HRx.out.res
              have g3 := frozen_of_row _ _ 3 _ _ HRx.out.res
              rw [hE] at a0
              clear hE hEl HRk
              go_wp2
              go_region
              go_wp2
              refine bodyPost_ret (refans_results _ _ (heap_four _ _ _ _ _ _ _ _ _ _ HRx.out.res) rfl rfl) rfl ?_
              exact HPB.out _ (HRx.out.wrong HBw.out hrw _ _ _ _).drew
            · have hE0 : ((endW W : Int) == 0) = false := by rw [beq_eq_false_iff_ne]; omega
              have HS := Lib.hid (Hsucc.out.trans (show _ = (some ⟨endW W, none⟩, 0) by simp [astep, hE]))
              have HO1 := Lib.hid (show OkI 1 ⟨endW W, none⟩ from .inr (.inl ⟨rfl, hE, rfl⟩))
              clear hE hEl HRk
              go_wp2
              go_roundw
              case rel => exact ⟨1, ⟨endW W, none⟩, v, by omega, by go_num, HS, HO1, HR4⟩
              case measure => simp [intOf]; omega
      · have hi0' : ((i : Int) == 0) = false := by rw [beq_eq_false_iff_ne]; omega
        have p0 : wp.cell? ⟨P, 0, none⟩ = some (.int .i64 (n : Nat)) := cell_of_row _ _ 0 _ _ _ HC.out
        have p1 : wp.cell? ⟨P, 1, none⟩ = some (.slice (some ⟨b2, off2, none⟩) q c2) := cell_of_row _ _ 1 _ _ _ HC.out
        have a0 := cell_of_row _ _ 0 _ _ _ HRp.out.ans
        have hq0 : 0 < W.length := List.length_pos_iff.2 HWne.out
        have hqp : 0 < q := by rw [Hq.out]; exact hq0
        have c0 : wp.cell? ⟨b2, off2, none⟩ = some (sv W[0]) := Hcs.out wp HRp.out.bel 0 hq0
        have hzl : q - 1 < W.length := by rw [← Hq.out]; omega
        have cz : wp.cell? ⟨b2, off2 + (q - 1), none⟩ = some (sv (W[q - 1]'hzl)) := Hcs.out wp HRp.out.bel (q - 1) hzl
        have hws : IntKind.i64.wrap ((q : Int) - 1) = ((q - 1 : Nat) : Int) := by rw [IntKind.wrap_i64]; omega
        have hz1 : (0 : Int) ≤ ((q - 1 : Nat) : Int) := by omega
        have hz2 : ((q - 1 : Nat) : Int) < (q : Int) := by omega
        have hz3 : (0 : Int) < (q : Int) := by omega
        have Hb3 := Lib.hid (show q < 2 → truthsW W = none from fun h => by unfold truthsW; rw [if_pos (.inl (by rw [← Hq.out]; exact h))])
        have Hb4 := Lib.hid (show W[0] ≠ [118] → truthsW W = none from fun h => by unfold truthsW; rw [if_pos (.inr (.inl (by rw [List.getElem?_eq_getElem hq0]; simpa using h)))])
        have Hb5 := Lib.hid (show W[q - 1]'hzl ≠ [48] → truthsW W = none from fun h => by unfold truthsW; rw [if_pos (.inr (.inr (by rw [← Hq.out, List.getElem?_eq_getElem hzl]; simpa using h)))])
        have Hok := Lib.hid (show ¬ q < 2 → W[0] = [118] → W[q - 1]'hzl = [48] → truthsW W = tfold (tbody W) from fun h0 h1 h2' => by
          unfold truthsW
          rw [if_neg]
          rintro (h | h | h)
          · rw [← Hq.out] at h; exact h0 h
          · rw [List.getElem?_eq_getElem hq0, h1] at h; exact h rfl
          · rw [← Hq.out, List.getElem?_eq_getElem hzl, h2'] at h; exact h rfl)
        obtain ⟨x0, hx0'⟩ : ∃ x, x = W[0] := ⟨_, rfl⟩
        obtain ⟨xz, hxz'⟩ : ∃ x, x = W[q - 1]'hzl := ⟨_, rfl⟩
        obtain ⟨z, hz⟩ : ∃ z, z = q - 1 := ⟨_, rfl⟩
        rw [← hx0'] at c0 Hb4 Hok
        rw [← hxz'] at cz Hb5 Hok
        rw [← hz] at cz hws hz1 hz2
        have Hz := Lib.hid hz
        clear hx0' hxz' hz hzl hq0
        by_cases hi1 : 1 < i
        · have hS : s.e = 1 ∧ s.t ≠ none := by
            rcases HOK.out with h | h | h
            · omega
            · omega
            · exact h.2
          have HPB := Lib.hid (HBad.out (by unfold astep; rw [if_neg (by omega), if_neg (fun h => hS.2 h.2)]))
          have hg1 : (1 : Int) < (i : Int) := by omega
          clear hS hi1
          have HRx := Lib.hid (HRp.out)
          have r0 := cell_of_row _ _ 0 _ _ _ HRx.out.res
          have g0 := frozen_of_row _ _ 0 _ _ HRx.out.res
          have r1 := cell_of_row _ _ 1 _ _ _ HRx.out.res
          have g1 := frozen_of_row _ _ 1 _ _ HRx.out.res
          have r2 := cell_of_row _ _ 2 _ _ _ HRx.out.res
          have g2 := frozen_of_row _ _ 2 _ _ HRx.out.res
          have r3 := cell_of_row _ _ 3 _ _ _ HRx.out.res
          have g3 := frozen_of_row _ _ 3 _ _ HRx.out.res
          go_upto_region 16 with fail
          rw [← HP.out, ← Hwp.out]
          go_wp2
          go_region
          go_wp2
          refine bodyPost_ret (refans_results _ _ (heap_four _ _ _ _ _ _ _ _ _ _ HRx.out.res) rfl rfl) rfl ?_
          exact HPB.out _ (HRx.out.wrong HBw.out hrw _ _ _ _).drew
        obtain rfl : i = 1 := by omega
        obtain ⟨hse, hst⟩ : s.e ≠ 0 ∧ s.t = none := by
          rcases HOK.out with h | h | h
          · omega
          · exact h.2
          · omega
        obtain ⟨E, t⟩ := s
        dsimp only at hse hst HRp a0
        subst hst
        by_cases hE : E = 1
        case neg =>
          have HPB := Lib.hid (HBad.out (by simp [astep, hse, hE]))
          have hE' : ((E : Int) != 1) = true := by simp; omega
          clear hE hse
          have HRx := Lib.hid (HRp.out)
          have r0 := cell_of_row _ _ 0 _ _ _ HRx.out.res
          have g0 := frozen_of_row _ _ 0 _ _ HRx.out.res
          have r1 := cell_of_row _ _ 1 _ _ _ HRx.out.res
          have g1 := frozen_of_row _ _ 1 _ _ HRx.out.res
          have r2 := cell_of_row _ _ 2 _ _ _ HRx.out.res
          have g2 := frozen_of_row _ _ 2 _ _ HRx.out.res
          have r3 := cell_of_row _ _ 3 _ _ _ HRx.out.res
          have g3 := frozen_of_row _ _ 3 _ _ HRx.out.res
          go_upto_region 16 with fail
          rw [← HP.out, ← Hwp.out]
          go_wp2
          go_region
          go_wp2
          refine bodyPost_ret (refans_results _ _ (heap_four _ _ _ _ _ _ _ _ _ _ HRx.out.res) rfl rfl) rfl ?_
          exact HPB.out _ (HRx.out.wrong HBw.out hrw _ _ _ _).drew
        subst hE
        have Has := Lib.hid (show astep ⟨1, none⟩ W = (truthsW W).map fun t => ⟨1, some t⟩ from rfl)
        by_cases hq2 : q < 2
        · have HPB := Lib.hid (HBad.out (by rw [Has.out, Hb3.out hq2]; rfl))
          have hl2 : (q : Int) < 2 := by omega
          clear hq2
          have HRx := Lib.hid (HRp.out)
          have r0 := cell_of_row _ _ 0 _ _ _ HRx.out.res
          have g0 := frozen_of_row _ _ 0 _ _ HRx.out.res
          have r1 := cell_of_row _ _ 1 _ _ _ HRx.out.res
          have g1 := frozen_of_row _ _ 1 _ _ HRx.out.res
          have r2 := cell_of_row _ _ 2 _ _ _ HRx.out.res
          have g2 := frozen_of_row _ _ 2 _ _ HRx.out.res
          have r3 := cell_of_row _ _ 3 _ _ _ HRx.out.res
          have g3 := frozen_of_row _ _ 3 _ _ HRx.out.res
          go_upto_region 16 with fail
          rw [← HP.out, ← Hwp.out]
          go_wp2
          go_region
          go_wp2
          refine bodyPost_ret (refans_results _ _ (heap_four _ _ _ _ _ _ _ _ _ _ HRx.out.res) rfl rfl) rfl ?_
          exact HPB.out _ (HRx.out.wrong HBw.out hrw _ _ _ _).drew
        have hl2 : decide ((q : Int) < 2) = false := decide_eq_false (by omega)
        by_cases hv : x0 = [118]
        case neg =>
          have HPB := Lib.hid (HBad.out (by rw [Has.out, Hb4.out hv]; rfl))
          have k0 : (!((bz x0).toList == (bz [118]).toList)) = true := by rw [eq_no hv]; rfl
          clear hv
          have HRx := Lib.hid (HRp.out)
          have r0 := cell_of_row _ _ 0 _ _ _ HRx.out.res
          have g0 := frozen_of_row _ _ 0 _ _ HRx.out.res
          have r1 := cell_of_row _ _ 1 _ _ _ HRx.out.res
          have g1 := frozen_of_row _ _ 1 _ _ HRx.out.res
          have r2 := cell_of_row _ _ 2 _ _ _ HRx.out.res
          have g2 := frozen_of_row _ _ 2 _ _ HRx.out.res
          have r3 := cell_of_row _ _ 3 _ _ _ HRx.out.res
          have g3 := frozen_of_row _ _ 3 _ _ HRx.out.res
          go_upto_region 16 with fail
          rw [← HP.out, ← Hwp.out]
          go_wp2
          go_region
          go_wp2
          refine bodyPost_ret (refans_results _ _ (heap_four _ _ _ _ _ _ _ _ _ _ HRx.out.res) rfl rfl) rfl ?_
          exact HPB.out _ (HRx.out.wrong HBw.out hrw _ _ _ _).drew
        have k0 : (!((bz x0).toList == (bz [118]).toList)) = false := by rw [eq_yes hv]; rfl
        by_cases hzz : xz = [48]
        case neg =>
          have HPB := Lib.hid (HBad.out (by rw [Has.out, Hb5.out hzz]; rfl))
          have k1 : (!((bz xz).toList == (bz [48]).toList)) = true := by rw [eq_no hzz]; rfl
          clear hv hzz
          have HRx := Lib.hid (HRp.out)
          have r0 := cell_of_row _ _ 0 _ _ _ HRx.out.res
          have g0 := frozen_of_row _ _ 0 _ _ HRx.out.res
          have r1 := cell_of_row _ _ 1 _ _ _ HRx.out.res
          have g1 := frozen_of_row _ _ 1 _ _ HRx.out.res
          have r2 := cell_of_row _ _ 2 _ _ _ HRx.out.res
          have g2 := frozen_of_row _ _ 2 _ _ HRx.out.res
          have r3 := cell_of_row _ _ 3 _ _ _ HRx.out.res
          have g3 := frozen_of_row _ _ 3 _ _ HRx.out.res
          go_upto_region 16 with fail
          rw [← HP.out, ← Hwp.out]
          go_wp2
          go_region
          go_wp2
          refine bodyPost_ret (refans_results _ _ (heap_four _ _ _ _ _ _ _ _ _ _ HRx.out.res) rfl rfl) rfl ?_
          exact HPB.out _ (HRx.out.wrong HBw.out hrw _ _ _ _).drew
        have k1 : (!((bz xz).toList == (bz [48]).toList)) = false := by rw [eq_yes hzz]; rfl
        have HTr := Lib.hid (Hok.out hq2 hv hzz)
        clear hv hzz
        go_upto_region 16 with fail
        rw [← HP.out, ← Hwp.out]
        obtain ⟨M, hM⟩ : ∃ M, M = q - 2 := ⟨_, rfl⟩
        have HM := Lib.hid hM
        have HMt := Lib.hid (show (tbody W).length = M by rw [tbody_len, ← Hq.out, hM])
        have hzM : z = M + 1 := by rw [Hz.out, hM]; omega
        have HzM := Lib.hid hzM
        have hMl : M ≤ 2001 := by omega
        have hqz : (q : Int) = (z : Int) + 1 := by rw [hzM, hM]; omega
        have HNx := Lib.hid (show ∀ T, truthsW W = some T → linesA .start (L.take (1 + 1)) = (some ⟨1, some T⟩, 0) from fun T h => by rw [Hsucc.out, Has.out, h]; rfl)
        have HBd := Lib.hid (show ∀ j, tfold ((tbody W).take j) = none → ∀ w', Below w.heap.size w w' → RefAnsPost a w (.returned (.tuple #[zA, .int .i64 (n : Nat)])) w' from fun j h => HBad.out (by rw [Has.out, HTr.out, tfold_bad h]; rfl))
        have HCw := Lib.hid (show ∀ wz, Below w2.heap.size w2 wz → ∀ j (h : j < (tbody W).length), wz.cell? ⟨b2, off2 + (j + 1), none⟩ = some (sv (tbody W)[j]) from fun wz hz j h => by rw [tbody_get h]; exact Hcs.out wz hz (j + 1) _)
        have HRp' := Lib.hid (show RA w2 wp rb ab v 1 [] from HRp.out)
        have Hqz := Lib.hid hqz
        obtain ⟨Av, cv, rfl⟩ := own_shape HRp.out.own
        clear hM hqz hzM hq2
        go_wp2_with fail
        clear c0 cz k0 k1 hl2 hz1 hz2 hz3
        go_loopw [12] (fun jv wr => ∃ (j : Nat) (T : List Bool) (v : Value), j ≤ M ∧ jv = .int .i64 ((j : Int) + 1) ∧ Hid (T.length = j) ∧ Hid (tfold ((tbody W).take j) = some T) ∧ Hid (RA w2 wr rb ab v 1 T) ∧ Hid (wr.heap[P]? = some (.cells #[.int .i64 (n : Nat), .slice (some ⟨b2, off2, none⟩) q c2] 75 (0, 0)))) (fun jv _ => M + 1 - (intOf jv).toNat)
        case atStart => exact ⟨0, [], _, Nat.zero_le _, rfl, Lib.hid rfl, Lib.hid rfl, HRp', HC⟩
        case round =>
          obtain ⟨wk, hwk⟩ : ∃ w0 : World, w0 = wr := ⟨_, rfl⟩
          rw [← hwk] at hrel ⊢
          clear hwk
          obtain ⟨j, T, vt, hj, rfl, HTl, HTk, HRk, HCk⟩ := hrel
          have d0 : wk.cell? ⟨P, 0, none⟩ = some (.int .i64 (n : Nat)) := cell_of_row _ _ 0 _ _ _ HCk.out
          have d1 : wk.cell? ⟨P, 1, none⟩ = some (.slice (some ⟨b2, off2, none⟩) q c2) := cell_of_row _ _ 1 _ _ _ HCk.out
          rcases Nat.lt_or_ge j M with hlt2 | hge2
          · have hjt : j < (tbody W).length := by rw [HMt.out]; exact hlt2
            have hc := HCw.out wk HRk.out.bel j hjt
            have Hs := Lib.hid ((tfold_succ hjt).trans (by rw [HTk.out]))
            obtain ⟨x, hx⟩ : ∃ x, x = (tbody W)[j] := ⟨_, rfl⟩
            rw [← hx] at hc Hs
            clear hx hjt
            have hlk : (j : Int) + 1 < (z : Int) := by have := HzM.out; omega
            have hi1 : (0 : Int) ≤ (j : Int) + 1 := by omega
            have hi2 : (j : Int) + 1 < (q : Int) := by have := Hqz.out; omega
            have hc' : wk.cell? ⟨b2, off2 + ((j : Int) + 1).toNat, none⟩ = some (sv x) := by rw [show ((j : Int) + 1).toNat = j + 1 by omega]; exact hc
            have hwn : IntKind.i64.wrap (-((j : Int) + 1)) = -((j : Int) + 1) := i64_range (by clear HRk; omega)
            cases hp : parseL x with
            | none =>
              have Hv := Lib.hid (show ParsedV x = .tuple #[.int .i64 0, .bool false] by unfold ParsedV; rw [hp]; rfl)
              have HPB := Lib.hid (HBd.out (j + 1) (Hs.out.trans (by simp [tstep, hp])))
              clear hp Hs
              have HRx := Lib.hid (HRk.out)
              have r0 := cell_of_row _ _ 0 _ _ _ HRx.out.res
              have g0 := frozen_of_row _ _ 0 _ _ HRx.out.res
              have r1 := cell_of_row _ _ 1 _ _ _ HRx.out.res
              have g1 := frozen_of_row _ _ 1 _ _ HRx.out.res
              have r2 := cell_of_row _ _ 2 _ _ _ HRx.out.res
              have g2 := frozen_of_row _ _ 2 _ _ HRx.out.res
              have r3 := cell_of_row _ _ 3 _ _ _ HRx.out.res
              have g3 := frozen_of_row _ _ 3 _ _ HRx.out.res
              go_wp2_with (go_at_call 36; refine (HPr.out _ _).mono ?_; rintro e wk2 ⟨rfl, hwk2⟩; obtain rfl := hwk2.symm; rw [Hv.out])
              go_region
              go_wp2
              refine bodyPost_ret (refans_results _ _ (heap_four _ _ _ _ _ _ _ _ _ _ HRx.out.res) rfl rfl) rfl ?_
              exact HPB.out _ (HRx.out.wrong HBw.out hrw _ _ _ _).drew
            | some y =>
              have Hv := Lib.hid (show ParsedV x = .tuple #[.int .i64 y, .bool true] by unfold ParsedV; rw [hp]; rfl)
              have Hs2 := Lib.hid (Hs.out.trans (show tstep (some T) x = if y = (j : Int) + 1 ∨ y = -((j : Int) + 1) then some (T ++ [decide (0 < y)]) else none by simp only [tstep, hp, HTl.out]))
              have hyr := parseL_range hp
              clear hp Hs
              by_cases hy : y = (j : Int) + 1 ∨ y = -((j : Int) + 1)
              case neg =>
                have HPB := Lib.hid (HBd.out (j + 1) (Hs2.out.trans (if_neg hy)))
                have e1 : (y != (j : Int) + 1) = true := bne_iff_ne.2 fun h => hy (.inl h)
                have e2 : (y != -((j : Int) + 1)) = true := bne_iff_ne.2 fun h => hy (.inr h)
                clear hy Hs2
                have HRx := Lib.hid (HRk.out)
                have r0 := cell_of_row _ _ 0 _ _ _ HRx.out.res
                have g0 := frozen_of_row _ _ 0 _ _ HRx.out.res
                have r1 := cell_of_row _ _ 1 _ _ _ HRx.out.res
                have g1 := frozen_of_row _ _ 1 _ _ HRx.out.res
                have r2 := cell_of_row _ _ 2 _ _ _ HRx.out.res
                have g2 := frozen_of_row _ _ 2 _ _ HRx.out.res
                have r3 := cell_of_row _ _ 3 _ _ _ HRx.out.res
                have g3 := frozen_of_row _ _ 3 _ _ HRx.out.res
                go_wp2_with (go_at_call 36; refine (HPr.out _ _).mono ?_; rintro e wk2 ⟨rfl, hwk2⟩; obtain rfl := hwk2.symm; rw [Hv.out])
                go_region
                go_wp2
                refine bodyPost_ret (refans_results _ _ (heap_four _ _ _ _ _ _ _ _ _ _ HRx.out.res) rfl rfl) rfl ?_
                exact HPB.out _ (HRx.out.wrong HBw.out hrw _ _ _ _).drew
              have Hn := Lib.hid (Hs2.out.trans (if_pos hy))
              have hw22 : IntKind.i64.wrap ((j : Int) + 1 + 1) = (j : Int) + 1 + 1 := wrap_jj (Nat.lt_of_lt_of_le hlt2 (Nat.le_trans hMl (by decide)))
              have Hl1 := Lib.hid (show (T ++ [decide (0 < y)]).length = j + 1 by simp [HTl.out])
              clear Hs2
              obtain ⟨A5, c5, rfl⟩ := own_shape HRk.out.own
              have a1 := cell_of_row _ _ 1 _ _ _ HRk.out.ans
              have hak := (Array.getElem?_eq_some_iff.1 HRk.out.ans).1
              have hTs : T.length ≤ 2001 := Nat.le_trans (Nat.le_of_eq HTl.out) (Nat.le_trans hj hMl)
              have hw2 : w2.heap.size ≤ wk.heap.size := HRk.out.bel.size
              have hPk := (Array.getElem?_eq_some_iff.1 HCk.out).1
              rcases hy with hy | hy
              · have e1 : (y != (j : Int) + 1) = false := by rw [bne_eq_false_iff_eq]; exact hy
                clear hy
                go_wp2_with (first
                  | (go_at_call 36; refine (HPr.out _ _).mono ?_; rintro e wk2 ⟨rfl, hwk2⟩; obtain rfl := hwk2.symm; rw [Hv.out])
                  | (at_builtin; refine wpList_pushRA (b := decide (0 < y)) HRk.out HCk.out hab2 hra hTs rfl _ _ rfl rfl rfl ?_; intro A6 c6 w5 H5 b1 fz HC5))
                go_roundw
                case rel => exact ⟨j + 1, T ++ [decide (0 < y)], _, hlt2, by go_num, Hl1, Hn, H5, Lib.hid ((Below.heap_setCell _ ⟨ab, 1, none⟩ _ P hPa).trans HC5.out)⟩
                case measure => simp [intOf]; clear hwn hws hw22; omega
              · have e1 : (y != (j : Int) + 1) = true := bne_iff_ne.2 (by rw [hy]; exact neg_ne j)
                have e2 : (y != -((j : Int) + 1)) = false := by rw [bne_eq_false_iff_eq]; exact hy
                clear hy
                go_wp2_with (first
                  | (go_at_call 36; refine (HPr.out _ _).mono ?_; rintro e wk2 ⟨rfl, hwk2⟩; obtain rfl := hwk2.symm; rw [Hv.out])
                  | (at_builtin; refine wpList_pushRA (b := decide (0 < y)) HRk.out HCk.out hab2 hra hTs rfl _ _ rfl rfl rfl ?_; intro A6 c6 w5 H5 b1 fz HC5))
                go_roundw
                case rel => exact ⟨j + 1, T ++ [decide (0 < y)], _, hlt2, by go_num, Hl1, Hn, H5, Lib.hid ((Below.heap_setCell _ ⟨ab, 1, none⟩ _ P hPa).trans HC5.out)⟩
                case measure => simp [intOf]; clear hwn hws hw22; omega
          · obtain rfl : j = M := by omega
            have hlk : ¬ (j : Int) + 1 < (z : Int) := by have := HzM.out; omega
            have HTT := Lib.hid (show truthsW W = some T by rw [HTr.out]; have := HTk.out; rwa [← HMt.out, List.take_length] at this)
            have HS := Lib.hid (HNx.out T HTT.out)
            have HO2 := Lib.hid (show OkI 2 ⟨1, some T⟩ from .inr (.inr ⟨Nat.le_refl _, rfl, by simp⟩))
            go_wp2
            go_roundw
            case rel => exact ⟨2, ⟨1, some T⟩, vt, by omega, by go_num, HS, HO2, HRk⟩
            case measure => simp [intOf]; omega
    · obtain rfl : i = N := by omega
      have HLN := Lib.hid (show linesA .start (linesOf a) = (some s, 0) by have := HLA.out; rwa [HN.out, List.take_length, HL.out] at this)
      have HEnd := Lib.hid (show openA s → ∀ (w' : World), Below w.heap.size w w' → RefAnsPost a w (.returned (.tuple #[zA, .int .i64 (endOf a : Nat)])) w' from fun h w' hb => ⟨hb, by unfold aR; rw [HLN.out]; simp only [if_pos h]⟩)
      have HGo := Lib.hid (show ¬ openA s → ∀ (w' : World) (v : Value), Below w.heap.size w w' → RBools w' (Lt w'.heap.size) v (s.t.getD []) → RefAnsPost a w (.returned (.tuple #[.agg #[.int .i64 (s.e : Nat), v, .slice none 0 0, .int .i64 0], .int .i64 0])) w' from fun h w' v hb hr => ⟨hb, by unfold aR; rw [HLN.out]; simp only [if_neg h]; exact ⟨v, rfl, hr⟩⟩)
      have hok := HOK.out
      obtain ⟨E, t⟩ := s
      dsimp only at HRi HGo hok
      obtain ⟨Av, cv, rfl⟩ := own_shape HRi.out.own
      have r0 := cell_of_row _ _ 0 _ _ _ HRi.out.res
      have g0 := frozen_of_row _ _ 0 _ _ HRi.out.res
      have r1 := cell_of_row _ _ 1 _ _ _ HRi.out.res
      have g1 := frozen_of_row _ _ 1 _ _ HRi.out.res
      have r2 := cell_of_row _ _ 2 _ _ _ HRi.out.res
      have g2 := frozen_of_row _ _ 2 _ _ HRi.out.res
      have r3 := cell_of_row _ _ 3 _ _ _ HRi.out.res
      have g3 := frozen_of_row _ _ 3 _ _ HRi.out.res
      have a0 := cell_of_row _ _ 0 _ _ _ HRi.out.ans
      have a1 := cell_of_row _ _ 1 _ _ _ HRi.out.ans
      have a2 := cell_of_row _ _ 2 _ _ _ HRi.out.ans
      have a3 := cell_of_row _ _ 3 _ _ _ HRi.out.ans
      clear HLA HOK
      rcases hok with ⟨h0, h⟩ | ⟨h1, hE, ht⟩ | ⟨h2, hE, ht⟩
      · simp only [AS.mk.injEq] at h
        obtain ⟨rfl, rfl⟩ := h
        have HPE := Lib.hid (HEnd.out (.inl rfl))
        have hN0 : ((i : Int) == 0) = true := by rw [h0]; rfl
        clear HEnd HGo h0
        go_wp2
        refine bodyPost_ret (refans_results _ _ (heap_four _ _ _ _ _ _ _ _ _ _ HRi.out.res) rfl rfl) rfl ?_
        exact HPE.out _ (HRi.out.wrong HBw.out hrw _ _ _ _)
      · dsimp only at hE ht
        subst ht
        have hN0 : ((i : Int) == 0) = false := by rw [h1]; rfl
        have hN1 : ((i : Int) == 1) = true := by rw [h1]; rfl
        by_cases hE1 : E = 1
        · subst hE1
          have HPE := Lib.hid (HEnd.out (.inr ⟨rfl, rfl⟩))
          clear HEnd HGo h1
          go_wp2
          refine bodyPost_ret (refans_results _ _ (heap_four _ _ _ _ _ _ _ _ _ _ HRi.out.res) rfl rfl) rfl ?_
          exact HPE.out _ (HRi.out.wrong HBw.out hrw _ _ _ _)
        · have HPG := Lib.hid (HGo.out (by unfold openA; simp [hE, hE1]))
          have hE' : ((E : Int) == 1) = false := by rw [beq_eq_false_iff_ne]; omega
          clear HEnd HGo h1 hE hE1
          go_wp2
          refine bodyPost_ret (refans_results _ _ (heap_four _ _ _ _ _ _ _ _ _ _ HRi.out.res) rfl rfl) rfl ?_
          exact HPG.out _ _ (HRi.out.wrong HBw.out hrw _ _ _ _) (HRi.out.final _ _ _ _)
      · dsimp only at hE ht
        subst hE
        have hN0 : ((i : Int) == 0) = false := by rw [beq_eq_false_iff_ne]; omega
        have hN1 : ((i : Int) == 1) = false := by rw [beq_eq_false_iff_ne]; omega
        have HPG := Lib.hid (HGo.out (by unfold openA; simp [ht]))
        clear HEnd HGo h2 ht
        go_wp2
        refine bodyPost_ret (refans_results _ _ (heap_four _ _ _ _ _ _ _ _ _ _ HRi.out.res) rfl rfl) rfl ?_
        exact HPG.out _ _ (HRi.out.wrong HBw.out hrw _ _ _ _) (HRi.out.final _ _ _ _)
end Go.Proofs.YtgfbmidpiamkhaaDoor
