/- What slices.Delete of one row and slices.Clone compute on rows of the call's own memory. / core.Only: what it computes. -/
import Derived.Lib.SlicesDelete
import Derived.Shelf.RegionOpenPlain
import Derived.Lib.SliceRun
import Derived.Deep.RegionLaw
import Derived.Deep.Upon
import Derived.Test.YtcebafeaikipmaaCb1
import Derived.Test.YtcebafeaikipmaaZa
namespace Go.Proofs.Ytcebafeaikipmaa.S16
open Go.Proofs.Ytcebafeaikipmaa.S15 (rat_cells wpList_appendL)
open Go.RowKit

theorem eInt : Elem1 Try.prog 37 3 8 := elem1_mk (z := .int .i64 0) Try.underlying37 (by kernel_rfl) (by omega) rfl
theorem heap_setCells (g : Nat) (t : TypeId) : ∀ (vs : List Value) (o : Nat) (w : World) (cur : Array Value), w.heap[g]? = some (.cells cur t (0, 0)) → (w.setCells g o vs).heap[g]? = some (.cells (Go.Lib.lay cur o vs) t (0, 0))
  | [], _, _, _, h => h
  | v :: r, o, w, cur, h => heap_setCells g t r (o + 1) _ _ (heap_setCell_same w g o cur t v h)
theorem size_setCells (g : Nat) : ∀ (vs : List Value) (o : Nat) (w : World), (w.setCells g o vs).heap.size = w.heap.size
  | [], _, _ => rfl
  | v :: r, o, w => by rw [World.setCells, size_setCells g r]; simp
theorem setCells_grown (g o : Nat) (vs : List Value) (w : World) : w.grownBy (w.setCells g o vs) (some g) :=
  ⟨World.os_setCells _ _ _ _, by
    have : ∀ (vs : List Value) (o : Nat) (w : World), (w.setCells g o vs).tape = w.tape := by
      intro vs
      induction vs with
      | nil => intro o w; rfl
      | cons v r ih => intro o w; rw [World.setCells, ih]; rfl
    exact this _ _ _, World.output_setCells _ _ _ _, by rw [size_setCells]; exact Nat.le_refl _, fun k hk hne => World.heap_setCells_other w g o vs hk (fun e => hne (by rw [e]))⟩
theorem drew_grown (w : World) (r : Option Nat) : w.grownBy w.drew r := ⟨rfl, rfl, rfl, Nat.le_refl _, fun _ _ _ => rfl⟩
theorem lay_take_row {cur : Array Value} {n cap i : Nat} {xs : List Value} (hsz : cur.size = cap * 1) (hn : n ≤ cap) (ht : cur.toList.take (n * 1) = xs) (hi : i < n) (z : Value) :
    (Go.Lib.lay (Go.Lib.lay cur i (xs.drop (i + 1))) (n - 1) [z]).size = cap * 1 ∧ (Go.Lib.lay (Go.Lib.lay cur i (xs.drop (i + 1))) (n - 1) [z]).toList.take ((n - 1) * 1) = xs.eraseIdx i := by
  rw [Nat.mul_one] at hsz ht
  have hxl : xs.length = n := by rw [← ht]; simp; omega
  have hdl : (xs.drop (i + 1)).length = n - (i + 1) := by simp [hxl]
  have hl1 : (Go.Lib.lay cur i (xs.drop (i + 1))).size = cur.size := Go.Lib.lay_size _ _ _
  refine ⟨by rw [Go.Lib.lay_size, hl1]; omega, ?_⟩
  apply List.ext_getElem?
  intro t
  rw [Nat.mul_one, List.getElem?_take, List.getElem?_eraseIdx]
  by_cases ht1 : t < n - 1
  · rw [if_pos ht1, Array.getElem?_toList, Go.Lib.lay_get? _ _ _ _ (by rw [hl1]; simp; omega), if_neg (by simp; omega), Go.Lib.lay_get? _ _ _ _ (by rw [hdl]; omega), hdl]
    have hc : ∀ j, j < n → cur[j]? = xs[j]? := by
      intro j hj
      rw [← ht, List.getElem?_take, if_pos hj, Array.getElem?_toList]
    by_cases h2 : t < i
    · rw [if_neg (by omega), if_pos h2, hc t (by omega)]
    · rw [if_pos (by omega), if_neg h2, List.getElem?_drop]
      congr 1
      omega
  · rw [if_neg ht1]
    split
    · omega
    · rw [List.getElem?_eq_none (by omega)]

set_option maxRecDepth 100000 in
set_option maxHeartbeats 1000000 in
theorem Clone_any (s : Value) (l : List Int) (w : World) (hs : RInts w (Lt w.heap.size) s l) (hl : l.length ≤ 1000000) :
    Calls Try.prog 24 #[s] w fun e w' => ∃ v, e = .returned v ∧ w'.ownsRow w.heap.size 3 1 v l.length (l.map (Value.int .i64)) ∧ Below w.heap.size w w' := by
  obtain ⟨A, c, rfl, hm, hat⟩ := hs.open_
  have q22 : ∀ (w : World) (a : Option Addr) (n c n' c' : Nat), (binOp .eql 37 (.slice a n c) (.slice none n' c')).run Try.prog w = .ok (.bool a.isNone) w := fun w a n c n' c' => Go.Lib.run_eql_slice_nil w _ _ a n c n' c' Try.underlying37
  cases A with
  | none =>
    have h0 : l = [] := by
      cases l with
      | nil => rfl
      | cons x r => obtain ⟨b, off, e, _⟩ := hat (by simp); cases e
    subst h0
    go_enter Try.func24, Try.ntmps24
    go_wp2
    go_ret
    exact ⟨_, rfl, by simpa using World.ownsRow_nil _ _ _ _, Below.refl _ _⟩
  | some A =>
    go_enter Try.func24, Try.ntmps24
    have Hc := Lib.hid (rat_cells (f := Value.int .i64) (fun _ _ _ _ h => h) hat)
    go_wp2_with (
      at_builtin
      go_must (refine wpList_appendL rfl _ _ _ rfl eInt (v := .slice (some ⟨w.heap.size, 0, none⟩) 0 0) rfl (World.ownsRow_lit (base := w.heap.size) (e := 3) (size := 1) w #[] 0 (Nat.le_refl _) (by unfold maxLen; omega) rfl) A l.length c (l.map (Value.int .i64)) rfl (by simp) (fun j u hu => ?hcell) ?hone (by omega) (by simp) ?_)
      rotate_left 2
      intro v1 w3 hown1 hg1 hat1)
    case hcell =>
      have := Hc.out j u hu
      have hb := World.block_lt_of_cell? w _ this
      rw [World.cell?_alloc_lt _ _ _ hb]
      exact this
    case hone =>
      intro u hu
      obtain ⟨x, _, rfl⟩ := List.mem_map.1 hu
      rfl
    go_ret
    exact ⟨v1, rfl, by simpa using hown1, (below_alloc _ _).grown hg1 (by simp) (fun k hk => by simp [Value.ownBlock] at hk; omega)⟩
end Go.Proofs.Ytcebafeaikipmaa.S16

namespace Go.Proofs.Ytcebafeaikipmaa
open Go.RowKit
open S15 (Ch ch_new ch_set ch_grown)

theorem ints_own {w : World} {B : Nat} {v : Value} {l : List Int} (h : w.ownsRow B 3 1 v l.length (l.map (Value.int .i64))) : RInts w (fun b => B ≤ b ∧ b < w.heap.size) v l :=
  reads_of_own h rfl (fun g hg => h.lt g hg) fun k hk u hu => by
    rw [List.getElem?_map, List.getElem?_eq_getElem hk] at hu
    exact (Option.some.inj hu).symm

def OnlyMid (w0 wx : World) (P : Nat) (vI : Value) (r : Int) (items : List ItemD) : Prop :=
  w0.heap.size ≤ P ∧ Below w0.heap.size w0 wx ∧ wx.heap[P]? = some (.cells #[vI, .slice none 0 0, .int .i64 r] 25 (0, 0)) ∧ RItems wx (fun b => w0.heap.size ≤ b ∧ b < wx.heap.size ∧ b ≠ P) vI items
theorem mid1 {w0 W w3 : World} {vI : Value} {r : Int} {items : List ItemD} (h : w3.ownsRow W.heap.size 35 5 vI items.length (items.flatMap itemCells) ∧ Below W.heap.size W w3) (hW : Below w0.heap.size w0 W) :
    OnlyMid w0 (w3.alloc (.cells #[vI, .slice none 0 0, .int .i64 r] 25)) w3.heap.size vI r items := by
  obtain ⟨ho, hb⟩ := h
  have h1 := hW.size
  have h2 := hb.size
  refine ⟨by omega, (hW.trans (hb.mono h1)).alloc (by omega) _, heap_alloc_new _ _, ?_⟩
  refine RItems.stable _ _ _ _ _ _ (rarr_of_own (S := fun b => W.heap.size ≤ b ∧ b < w3.heap.size) itemCells_len ho fun g hg => ho.lt g hg) (fun b hb => Below.heap_alloc _ _ b hb.2) fun b hb => ⟨by omega, by simp; omega, by omega⟩
theorem mid2 {w0 W w3 : World} {P : Nat} {vI : Value} {r : Int} {items : List ItemD} {cs : Array Value} (h : w3.ownsRow W.heap.size 35 5 vI items.length (items.flatMap itemCells) ∧ Below W.heap.size W w3) (hW : Below w0.heap.size w0 W)
    (hP : w0.heap.size ≤ P) (hc : W.heap[P]? = some (.cells cs 25 (0, 0))) (h3 : cs = #[.slice none 0 0, .slice none 0 0, .int .i64 0]) :
    OnlyMid w0 (((w3.setCell ⟨P, 0, none⟩ vI).setCell ⟨P, 1, none⟩ (.slice none 0 0)).setCell ⟨P, 2, none⟩ (.int .i64 r)) P vI r items := by
  obtain ⟨ho, hb⟩ := h
  have h1 := hW.size
  have h2 := hb.size
  have hlt : P < W.heap.size := (Array.getElem?_eq_some_iff.1 hc).1
  subst h3
  refine ⟨hP, below3R (hW.trans (hb.mono h1)) hP _ _ _, set3R ((hb.block P hlt).trans hc) _ _ _, ?_⟩
  refine RItems.stable _ _ _ _ _ _ (rarr_of_own (S := fun b => W.heap.size ≤ b ∧ b < w3.heap.size) itemCells_len ho fun g hg => ho.lt g hg) (ag3R (fun b hb => by omega) _ _ _) fun b hb => ⟨by omega, by simpa using hb.2, by omega⟩
set_option maxRecDepth 100000 in
set_option maxHeartbeats 4000000 in
theorem Only_any (s0 s1 sl : Value) (r : Int) (items : List ItemD) (wss : List (List (List Int))) (l : List WantD) (w : World) (h0 : RItems w (Lt w.heap.size) s0 items) (hw : RIntsss w (Lt w.heap.size) s1 wss) (hl : RWants w (Lt w.heap.size) sl l) (hb1 : wss.length ≤ 1000) (hb2 : ∀ ws ∈ wss, ws.length ≤ 1000) (hb3 : items.length ≤ 1000) (hb4 : ∀ ws ∈ wss, ∀ x ∈ ws, x.length ≤ 1000) :
    Calls Try.prog 10 #[.agg #[s0, s1, .int .i64 r], sl] w (OnlyPost items wss r l w) := by
  obtain ⟨A0, c0, rfl, hm0, -⟩ := h0.open_
  obtain ⟨A1, c1, rfl, hm1, hat1⟩ := hw.open_
  obtain ⟨AL, cL, rfl, hmL, -⟩ := hl.open_
  have H0 := Lib.hid h0
  have Hat := Lib.hid hat1
  have HL := Lib.hid hl
  have Hlen := Lib.hid hb2
  have Hlen4 := Lib.hid hb4
  clear h0 hw hl hat1 hb2 hb4
  go_enter Try.func10, Try.ntmps10
  go_upto_region 1 with fail
  obtain ⟨w0, hw0⟩ : ∃ w0, w0 = (w.alloc (.cells #[.slice A0 items.length c0, .slice A1 wss.length c1, .int .i64 r] 25)).alloc (.cells #[.slice none 0 0, .slice none 0 0, .int .i64 0] 25) := ⟨_, rfl⟩
  have Hbx := Lib.hid (show Below w.heap.size w w0 by rw [hw0]; exact (below_alloc w _).alloc (by simp) _)
  have hx0 : w0.cell? ⟨w.heap.size, 0, none⟩ = some (.slice A0 items.length c0) := by rw [hw0]; simp [go_sem]
  have hx1 : w0.cell? ⟨w.heap.size, 1, none⟩ = some (.slice A1 wss.length c1) := by rw [hw0]; simp [go_sem]
  have hx2 : w0.cell? ⟨w.heap.size, 2, none⟩ = some (.int .i64 r) := by rw [hw0]; simp [go_sem]
  have Hq0 := Lib.hid (show w0.heap[w.heap.size + 1]? = some (.cells #[.slice none 0 0, .slice none 0 0, .int .i64 0] 25 (0, 0)) by rw [hw0]; have := heap_alloc_new (w.alloc (.cells #[.slice A0 items.length c0, .slice A1 wss.length c1, .int .i64 r] 25)) (.cells #[.slice none 0 0, .slice none 0 0, .int .i64 0] 25); rwa [World.size_alloc] at this)
  have hz0 : w0.heap.size = w.heap.size + 2 := by rw [hw0]; simp
  have hzz : w.heap.size < w0.heap.size := by omega
  have Hz0 := Lib.hid hz0
  have Hx1' := Lib.hid hx1
  rw [← hw0]
  clear hw0 hz0
  have HCl := Lib.hid (fun (W : World) (h : Below w0.heap.size w0 W) => show Calls Try.prog 22 #[.slice A0 items.length c0] W fun e w3 => ∃ A c, e = .returned (.slice A items.length c) ∧ w3.cell? ⟨w.heap.size, 0, none⟩ = some (.slice A0 items.length c0) ∧ w3.cell? ⟨w.heap.size, 2, none⟩ = some (.int .i64 r) ∧ ((∀ b o, b < W.heap.size → w3.cell? ⟨b, o, none⟩ = W.cell? ⟨b, o, none⟩) ∧ (∀ b o, b < W.heap.size → w3.frozen? ⟨b, o, none⟩ = W.frozen? ⟨b, o, none⟩)) ∧ w.heap.size < w3.heap.size ∧ Hid (w3.ownsRow W.heap.size 35 5 (.slice A items.length c) items.length (items.flatMap itemCells) ∧ Below W.heap.size W w3) by
    refine (CloneItems_any _ items W (RItems.stable.up H0.out (Hbx.out.trans (h.mono Hbx.out.size))) (by omega)).mono ?_
    rintro e w3 ⟨v3, rfl, ho3, b3⟩
    obtain ⟨A, c, rfl⟩ := own_shape ho3
    have hWl : w.heap.size < W.heap.size := Nat.lt_of_lt_of_le hzz h.size
    exact ⟨A, c, rfl, (b3.cell (p := ⟨w.heap.size, 0, none⟩) hWl).trans ((h.cell (p := ⟨w.heap.size, 0, none⟩) hzz).trans hx0), (b3.cell (p := ⟨w.heap.size, 2, none⟩) hWl).trans ((h.cell (p := ⟨w.heap.size, 2, none⟩) hzz).trans hx2), bcell b3, Nat.lt_of_lt_of_le hWl b3.size, Lib.hid ⟨ho3, b3⟩⟩)
  go_cut [5] (fun s5 wx => ∃ P vI, s5 = .pointer (some ⟨P, 0, none⟩) ∧ Hid (OnlyMid w0 wx P vI r items))
  case first =>
    go_region_law (go_simp; go_at_call 22; (with_reducible refine (HCl.out _ (by repeat (first | exact Below.refl _ _ | refine Below.drew ?_ | refine Below.alloc ?_ (by simp) _))).mono ?_; rintro e w3 ⟨A5, c5, rfl, hy0, hy2, ⟨hcc, hff⟩, hsw3, HF3⟩))
    all_goals go_wp2
    all_goals go_meet
    all_goals first
      | exact ⟨_, _, rfl, Lib.hid (mid1 HF3.out (by repeat (first | exact Below.refl _ _ | refine Below.drew ?_ | refine Below.alloc ?_ (by simp) _)))⟩
      | exact ⟨_, _, rfl, Lib.hid (mid2 HF3.out (by repeat (first | exact Below.refl _ _ | refine Below.drew ?_ | refine Below.alloc ?_ (by simp) _)) (Nat.le_refl _) (heap_new (by simp)) rfl)⟩
  case rest =>
    obtain ⟨P, vI, rfl, HM⟩ := hcut
    obtain ⟨hM1, hM2, hM3, hM4⟩ := HM.out
    obtain ⟨AI, cI, hvI⟩ := hM4.shape
    subst hvI
    have HI := Lib.hid hM4
    have Hr1 := Lib.hid hM3
    have HP0 := Lib.hid (show w.heap.size + 1 < P by have := Hz0.out; omega)
    have Hb0 := Lib.hid (show Below w.heap.size w wc from Hbx.out.trans (hM2.mono Hbx.out.size))
    have hx1 : wc.cell? ⟨w.heap.size, 1, none⟩ = some (.slice A1 wss.length c1) := (hM2.cell (p := ⟨w.heap.size, 1, none⟩) hzz).trans Hx1'.out
    have Hq1 := Lib.hid ((hM2.block (w.heap.size + 1) (by have := Hz0.out; omega)).trans Hq0.out)
    have hPz : P < wc.heap.size := (Array.getElem?_eq_some_iff.1 hM3).1
    obtain ⟨Bz, hBz⟩ : ∃ Bz, Bz = wc.heap.size := ⟨_, rfl⟩
    rw [← hBz] at HI hPz
    have HBz := Lib.hid hBz
    clear hM1 hM2 hM3 hM4 HM HCl hx0 hx2 hzz
    go_wp2
    clear hx1
    go_loopw [20] (fun sv wr => ∃ (i : Nat) (vW : Value) (us : List Value), i ≤ wss.length ∧ sv = .int .i64 i ∧ Hid (wr.heap[P]? = some (.cells #[.slice AI items.length cI, vW, .int .i64 r] 25 (0, 0))) ∧ Hid (RowsH RIntss 36 wr Bz (fun b => b ≠ P ∧ b ≠ w.heap.size + 1) vW us (onlyTo l wss i)) ∧ Hid (Ch (fun b => b = P ∨ Bz ≤ b) wc wr)) (fun sv _ => wss.length - (intOf sv).toNat)
    case atStart => exact ⟨0, _, [], Nat.zero_le _, rfl, Hr1, Lib.hid (RowsH.nil _ _ _ _ _), Lib.hid (Ch.refl _ _)⟩
    case round =>
      obtain ⟨wi, hwi⟩ : ∃ w0 : World, w0 = wr := ⟨_, rfl⟩
      rw [← hwi] at hrel ⊢
      clear hwi
      obtain ⟨i, vW, us, hi, rfl, HPc, HR, HC⟩ := hrel
      obtain ⟨AW, cW, hvW⟩ := own_shape HR.out.own
      rw [onlyTo_len] at hvW
      subst hvW
      have Hbw := Lib.hid (show Below w.heap.size w wi from Hb0.out.trans (HC.out.below (fun b hb => by have := HP0.out; omega) Hb0.out.size))
      have hBi : Bz ≤ wi.heap.size := by rw [HBz.out]; exact HC.out.size
      have hPl : P < wi.heap.size := (Array.getElem?_eq_some_iff.1 HPc.out).1
      rcases Nat.lt_or_ge i wss.length with hlt | hge
      · obtain ⟨b, off, u, rfl, hb, hc, hu⟩ := Hat.out.at_ RIntss.stable (ag_of_below Hbw.out) hlt
        obtain ⟨A2, c2, rfl, hm2, hat2⟩ := hu.open_
        have Hat2 := Lib.hid hat2
        have Hgd := Lib.hid (getD_at hlt)
        have Hln := Lib.hid (Hlen.out _ (List.getElem_mem hlt))
        have Hln4 := Lib.hid (Hlen4.out _ (List.getElem_mem hlt))
        obtain ⟨ws, hws⟩ : ∃ ws, ws = wss[i] := ⟨_, rfl⟩
        rw [← hws] at Hat2 Hgd hc hm2 Hln Hln4
        have hws2 : ws.length ≤ 1000 := Hln.out
        clear hws hu hat2
        go_wp2
        go_loopw [27, 8] (fun sv vL wr => ∃ (k : Nat) (ls : List Value), k ≤ ws.length ∧ sv = .int .i64 k ∧ Hid (RowsH RInts 37 wr wi.heap.size (fun b => (b ≠ P ∧ b ≠ w.heap.size + 1) ∧ some b ≠ (Value.slice AW i cW).ownBlock) vL ls (onlyRow l i ws k)) ∧ Hid (Below wi.heap.size wi wr)) (fun sv _ _ => ws.length - (intOf sv).toNat)
        case atStart => exact ⟨0, [], Nat.zero_le _, rfl, Lib.hid (RowsH.nil _ _ _ _ _), Lib.hid (Below.refl _ _)⟩
        case round =>
          obtain ⟨wk, hwk⟩ : ∃ w0 : World, w0 = wr := ⟨_, rfl⟩
          rw [← hwk] at hrel ⊢
          clear hwk
          obtain ⟨k, ls, hk, rfl, HRk, HBk⟩ := hrel
          have Hbk := Lib.hid (Hbw.out.trans (HBk.out.mono Hbw.out.size))
          rcases Nat.lt_or_ge k ws.length with hlt2 | hge2
          · obtain ⟨b2, off2, u2, rfl, hb2, hc2, hu2⟩ := Hat2.out.at_ RInts.stable (ag_of_below (HBk.out.mono Hbw.out.size)) hlt2
            obtain ⟨A3, c3, rfl, hm3, -⟩ := hu2.open_
            have HuX := Lib.hid (show RInts wk (Lt wk.heap.size) _ _ from RInts.stable.sub hu2 fun b (hb : b < _) => (Nat.lt_of_lt_of_le hb Hbk.out.size : b < _))
            have hxl : (ws[k]).length ≤ 1000000 := Nat.le_trans (Hln4.out _ (List.getElem_mem hlt2)) (by omega)
            have Hsu := Lib.hid (onlyRow_succ (l := l) (i := i) hlt2)
            have Hhas := Lib.hid (has27_any _ l ((i : Int), (k : Int)) wk (RWants.stable.up HL.out Hbk.out))
            obtain ⟨AV, cV, hvV⟩ := own_shape HRk.out.own
            obtain ⟨L, hL⟩ : ∃ L, L = (onlyRow l i ws k).length := ⟨_, rfl⟩
            have HL0 := Lib.hid hL
            have hLk : L ≤ 1000 := by have := onlyRow_len l i ws k; omega
            rw [← hL] at hvV
            subst hvV
            obtain ⟨x, hx⟩ : ∃ x, x = ws[k] := ⟨_, rfl⟩
            rw [← hx] at HuX hc2 hm3 Hsu hxl
            clear hL hx hu2
            have hbl : b2 < wk.heap.size := Nat.lt_of_lt_of_le hb2 Hbk.out.size
            cases hd : hasW l ((i : Int), (k : Int)) with
            | false =>
              have Hr := Lib.hid (show onlyRow l i ws (k + 1) = onlyRow l i ws k by rw [Hsu.out, hd]; simp)
              have Hd := Lib.hid hd
              clear hd
              go_wp2_with (go_at_call 23; with_reducible refine Hhas.out.mono ?_; rintro e w3 ⟨rfl, b3⟩; go_loud (rw [Hd.out]; have HB3 := Lib.hid b3; clear b3))
              go_roundw
              case rel => exact ⟨k + 1, ls, by omega, by go_num, Lib.hid (by rw [Hr.out]; exact HRk.out.up RInts.stable HB3.out), Lib.hid (HBk.out.trans (HB3.out.mono HBk.out.size))⟩
              case measure => simp [intOf]; omega
            | true =>
              have Hr := Lib.hid (show onlyRow l i ws (k + 1) = onlyRow l i ws k ++ [x] by rw [Hsu.out, hd]; simp)
              have Hd := Lib.hid hd
              clear hd
              go_wp2_with (first
                | (go_at_call 23; with_reducible refine Hhas.out.mono ?_; rintro e w3 ⟨rfl, b3⟩; go_loud (rw [Hd.out]; have HB3 := Lib.hid b3; have HR3 := Lib.hid (HRk.out.up RInts.stable b3); have hs3 : wi.heap.size ≤ w3.heap.size := Nat.le_trans HBk.out.size b3.size; have HO3 := Lib.hid (show w3.ownsRow wi.heap.size 37 1 (.slice AV L cV) L ls by have := HR3.out.own; rwa [← HL0.out] at this); clear b3))
                | (go_at_call 24; with_reducible refine (S16.Clone_any _ x w3 (RInts.stable.up HuX.out HB3.out) hxl).mono ?_; rintro e w5 ⟨v5, rfl, ho5, b5⟩; go_loud (obtain ⟨A5, c5, rfl⟩ := own_shape ho5; have HB5 := Lib.hid b5; have HRd5 := Lib.hid (ints_own ho5); have HR5 := Lib.hid (HR3.out.up RInts.stable b5); have hs5 : wi.heap.size ≤ w5.heap.size := Nat.le_trans hs3 b5.size; have HO5 := Lib.hid (show w5.ownsRow wi.heap.size 37 1 (.slice AV L cV) L ls by have := HR5.out.own; rwa [← HL0.out] at this); clear b5 ho5))
                | (at_builtin; go_loud (refine wpList_push rfl _ _ _ rfl eRow (v := .slice AV L cV) rfl (HO5.out.alloc _) w5.heap.size (.slice A5 x.length c5) rfl (by simp [go_sem]) rfl (by omega) (by simp; omega) ?_; intro v4 w4 hown4 hg4 hat4; have HO4 := Lib.hid hown4; have HG4 := Lib.hid hg4; have HT4 := Lib.hid hat4; clear hown4 hg4 hat4)))
              have hpu := HR5.out.push RInts.stable (below_alloc w5 (.cells #[.slice A5 x.length c5] 37)) (u := .slice A5 x.length c5) (c := x) (RInts.stable _ _ _ _ _ _ HRd5.out (fun b hb => Below.heap_alloc w5 _ b hb.2) fun b hb => (by
                  have h2 := HP0.out
                  have h3 := HB3.out.size
                  have h4 := HBk.out.size
                  refine ⟨⟨by omega, fun e => by have := (HR.out.lt b e.symm).2; omega⟩, by simp; omega, fun e => by have := (HR3.out.lt b e.symm).2; omega⟩)) (by rw [← HL0.out]; exact HO4.out) HG4.out HT4.out
              have HR4 := Lib.hid hpu
              have HB4 := Lib.hid (((HBk.out.trans (HB3.out.mono HBk.out.size)).trans (HB5.out.mono hs3)).trans (((below_alloc w5 (.cells #[.slice A5 x.length c5] 37)).mono hs5).grown HG4.out (by simp; omega) (fun g hg => (HR3.out.lt g hg).1)))
              clear hpu
              go_roundw
              case rel => exact ⟨k + 1, _, by omega, by go_num, Lib.hid (by rw [Hr.out]; exact HR4.out), HB4⟩
              case measure => simp [intOf]; omega
          · obtain rfl : k = ws.length := by omega
            obtain ⟨AV, cV, hvV⟩ := own_shape HRk.out.own
            subst hvV
            have hPk := (HBk.out.block P hPl).trans HPc.out
            have hx1 : wk.cell? ⟨P, 1, none⟩ = some (.slice AW i cW) := by rw [cell_of_row _ _ 1 _ _ _ hPk]; rfl
            have HPk := Lib.hid hPk
            have HRW := Lib.hid (HR.out.up RIntss.stable HBk.out)
            have HOW := Lib.hid (show wk.ownsRow Bz 36 1 (.slice AW i cW) i us by have := HRW.out.own; rwa [onlyTo_len] at this)
            have hsk2 : P < wk.heap.size := Nat.lt_of_lt_of_le hPl HBk.out.size
            have hsk : Bz ≤ wk.heap.size := Nat.le_trans hBi HBk.out.size
            clear hPk
            go_wp2_with (at_builtin; go_loud (refine wpList_push rfl _ _ _ rfl eWantss (v := .slice AW i cW) rfl (HOW.out.alloc _) wk.heap.size (.slice AV (onlyRow l i ws ws.length).length cV) rfl (by simp [go_sem]) rfl (by omega) (by simp; omega) ?_; intro v4 w4 hown4 hg4 hat4; obtain ⟨A4, c4, rfl⟩ := own_shape hown4; have hq4 := hg4.block P (by simp; omega) (fun e => by have := (HRW.out.lt P e.symm).1; omega); have hP4 := hq4.trans (heap_at_alloc (o := .cells #[.slice AV (onlyRow l i ws ws.length).length cV] 36) HPk.out); have hx4 : w4.cell? ⟨P, 1, none⟩ = some (.slice AW i cW) := (by rw [cell_of_row _ _ 1 _ _ _ hP4]; rfl); have hf4 : w4.frozen? ⟨P, 1, none⟩ = false := frozen_of_row w4 P 1 _ _ hP4; have HP4 := Lib.hid hP4; have HO4 := Lib.hid hown4; have HG4 := Lib.hid hg4; have HT4 := Lib.hid hat4; clear hown4 hg4 hat4 hq4 hP4))
            have hpu := HRW.out.push RIntss.stable (below_alloc wk (.cells #[.slice AV (onlyRow l i ws ws.length).length cV] 36)) (u := .slice AV (onlyRow l i ws ws.length).length cV) (c := onlyRow l i ws ws.length) (RIntss.stable _ _ _ _ _ _ (HRk.out.reads RInts.stable fun g hg => by
                have h1 := HRk.out.lt g hg
                have h2 := HP0.out
                exact ⟨⟨by omega, by omega⟩, fun e => by have := (HR.out.lt g e.symm).2; omega⟩) (fun b hb => Below.heap_alloc wk _ b hb.2) fun b hb => ⟨hb.1.1, by have := hb.2; simp; omega, hb.1.2⟩) (by rw [onlyTo_len]; exact HO4.out) HG4.out HT4.out
            have HR5 := Lib.hid (hpu.keep RIntss.stable (w' := w4.setCell ⟨P, 1, none⟩ (.slice A4 (i + 1) c4)) (fun b hb hS => Below.heap_setCell w4 ⟨P, 1, none⟩ _ b (by
                have h1 := hpu.lt
                rcases hS with hS | hS
                · exact hS.1
                · have := (h1 b hS).1; show b ≠ P; omega)) (by simp))
            have HC5 := Lib.hid (show Ch (fun b => b = P ∨ Bz ≤ b) wc (w4.setCell ⟨P, 1, none⟩ (.slice A4 (i + 1) c4)) from
              (((HC.out.trans (ch_new HBk.out _)).trans (ch_new (below_alloc wk _) _)).trans ((ch_grown HG4.out).imp fun j _ e => .inr (HRW.out.lt j e.symm).1)).trans ((ch_set w4 P 1 _).imp fun j _ e => .inl e))
            have HP5 := Lib.hid (heap_setCell_same w4 P 1 _ _ (.slice A4 (i + 1) c4) HP4.out)
            clear hpu
            go_roundw
            case rel => exact ⟨i + 1, _, _, by omega, by go_num, HP5, Lib.hid (by rw [onlyTo, Hgd.out]; exact HR5.out), HC5⟩
            case measure => simp [intOf]; omega
      · obtain rfl : i = wss.length := by omega
        have hp0 := cell_of_row _ _ 0 _ _ _ HPc.out
        have hp1 := cell_of_row _ _ 1 _ _ _ HPc.out
        have hp2 := cell_of_row _ _ 2 _ _ _ HPc.out
        have hq := (HC.out.block (w.heap.size + 1) (by have := HP0.out; omega) (by have := HP0.out; omega)).trans Hq1.out
        have hq0 := cell_of_row _ _ 0 _ _ _ hq
        have hq1 := cell_of_row _ _ 1 _ _ _ hq
        have hq2 := cell_of_row _ _ 2 _ _ _ hq
        have hqf := fun j => frozen_of_row wi (w.heap.size + 1) j _ _ hq
        have Hq := Lib.hid hq
        have hql : w.heap.size + 1 < wi.heap.size := by have := HP0.out; omega
        have HRd := Lib.hid (HR.out.reads RIntss.stable fun g hg => by have := (HR.out.lt g hg).1; have := HP0.out; exact ⟨by omega, by omega⟩)
        clear hq
        go_wp2
        refine bodyPost_ret (v := .agg #[.slice AI items.length cI, .slice AW wss.length cW, .int .i64 r]) (results_cell_row rfl _ _ (w.heap.size + 1) _ _ (0, 0) _ rfl (set3R Hq.out _ _ _) Try.underlying25 rfl (by kernel_rfl)) rfl ?_
        refine ⟨_, _, rfl, RItems.stable _ _ _ _ _ _ HI.out (fun b hb => ?_) (fun b hb => ?_), RIntsss.stable _ _ _ _ _ _ HRd.out (fun b hb => ?_) (fun b hb => ?_), below3R Hbw.out (by omega) _ _ _⟩
        · have h1 := Hz0.out
          rw [ag3R (S := fun b => b ≠ w.heap.size + 1) (fun b hb => hb) _ _ _ b (by omega)]
          exact HC.out.block b (by rw [← HBz.out]; exact hb.2.1) (by omega)
        · have h1 := hb.2.1
          have : b < wi.heap.size := by omega
          simpa using this
        · exact ag3R (S := fun b => b ≠ w.heap.size + 1) (fun b hb => hb) _ _ _ b hb.1.2
        · simpa using hb.2
end Go.Proofs.Ytcebafeaikipmaa
