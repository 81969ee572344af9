/- strings.Builder's writers once more: what they leave as it was, block by block (the shelf's contracts do not say it of a row above the builder). -/
import Derived.Test.YtnkbeaipgadphaaShStr
import Derived.Lib.AppendStr
import Derived.Deep.Onto
namespace Go.Proofs.Ytnkbeaipgadphaa
open Go.Shelf Go.RowKit
def layC_ren : Go.Shelf.Ren := ⟨fun | 240 => 49 | 276 => 55 | n => n, fun | 0 => 0 | 4 => 4 | 5 => 5 | 9 => 9 | 20 => 20 | 37 => 49 | 70 => 54 | 72 => 56 | 164 => 68 | n => n, fun | n => n⟩
theorem layC : Go.Proofs.Lays.n240 Try.prog layC_ren := {
  mixed := by kernel_rfl
  f240 := Try.func49.trans (congrArg some (by kernel_rfl))
  f276 := Try.func55.trans (congrArg some (by kernel_rfl))
  t0 := Try.underlying0
  a0 := Try.isAgg0
  z0 := Try.sizeOf0
  v0 := Try.zeroValue0
  t4 := Try.underlying4
  a4 := Try.isAgg4
  z4 := Try.sizeOf4
  v4 := Try.zeroValue4
  t9 := Try.underlying9
  a9 := Try.isAgg9
  z9 := Try.sizeOf9
  v9 := Try.zeroValue9
  t20 := Try.underlying20
  a20 := Try.isAgg20
  z20 := Try.sizeOf20
  v20 := Try.zeroValue20
  t70 := Try.underlying54
  a70 := Try.isAgg54
  z70 := Try.sizeOf54
  v70 := Try.zeroValue54
  t72 := Try.underlying56
  a72 := Try.isAgg56
  z72 := Try.sizeOf56
  v72 := Try.zeroValue56
  t164 := Try.underlying68
  a164 := Try.isAgg68
  z164 := Try.sizeOf68
  v164 := Try.zeroValue68 }
theorem layC_x : Builder.Extra Try.prog layC_ren := {
  sizeBuilder := by kernel_rfl
  liesBuilder := by kernel_rfl
  t5 := Try.underlying5
  a5 := Try.isAgg5
  z5 := Try.sizeOf5
  v5 := Try.zeroValue5
  infoByte := by kernel_rfl
  cellsByte := by kernel_rfl
  sizeByte := by kernel_rfl
  neB5 := of_decide_eq_true (by kernel_rfl) }
structure KeptB (O base : Nat) (w w' : World) : Prop where
  os : w'.os = w.os
  tape : w'.tape = w.tape
  output : w'.output = w.output
  size : w.heap.size ≤ w'.heap.size
  block : ∀ b, b < base → b ≠ O → w'.heap[b]? = w.heap[b]?
theorem KeptB.refl (O base : Nat) (w : World) : KeptB O base w w := ⟨rfl, rfl, rfl, Nat.le_refl _, fun _ _ _ => rfl⟩
theorem KeptB.trans {O base : Nat} {a b c : World} (h : KeptB O base a b) (k : KeptB O base b c) : KeptB O base a c := ⟨k.os.trans h.os, k.tape.trans h.tape, k.output.trans h.output, Nat.le_trans h.size k.size, fun i hi hn => (k.block i hi hn).trans (h.block i hi hn)⟩
theorem KeptB.push {O base k : Nat} {w w7 : World} {v' : Value} {row : Option Nat} (hb : base ≤ w.heap.size) (hg : w.grownBy w7 row) (hr : ∀ b, row = some b → base ≤ b) : KeptB O base w (w7.setCell ⟨O, k, none⟩ v') :=
  ⟨hg.os, hg.tape, hg.output, by have := hg.size; simp [World.setCell]; omega, fun b hb' hn => (Below.heap_setCell w7 ⟨O, k, none⟩ v' b hn).trans (hg.block b (by omega) fun e => by have := hr b e.symm; omega)⟩
theorem KeptB.alloc {O base : Nat} {w w7 : World} (o : Obj) (hb : base ≤ w.heap.size) (h : KeptB O base (w.alloc o) w7) : KeptB O base w w7 :=
  ⟨h.os, h.tape, h.output, by have := h.size; simp at this; omega, fun b hb' hn => (h.block b hb' hn).trans (Below.heap_alloc w o b (by omega))⟩
/-- The builder in block b holds the bytes bs; its row, if it has one, lies from D on. -/
def Bld (D b : Nat) (bs : List Value) (w : World) : Prop :=
  b < D ∧ D ≤ w.heap.size ∧ ∃ p v, (p = .pointer none ∨ p = .pointer (some ⟨b, 0, none⟩)) ∧ w.heap[b]? = some (.cells #[p, v] 56 (0, 0)) ∧ w.ownsRow D 5 1 v bs.length bs
theorem Bld.is {D b : Nat} {bs : List Value} {w : World} (h : Bld D b bs w) : IsB b b bs w := by
  obtain ⟨h1, _, p, v, hp, hb, ho⟩ := h
  have hne : v.ownBlock ≠ some b := fun e => by have := (ho.lt b e).1; omega
  rcases hp with rfl | rfl
  · exact .inl ⟨Nat.le_refl _, v, hb, ho.mono (by omega), hne⟩
  · exact .inr ⟨Nat.le_refl _, v, hb, ho.mono (by omega), hne⟩
theorem copyCheck_b (D b : Nat) (bs : List Value) (w : World) (h : Bld D b bs w) :
    Calls Try.prog 49 #[.pointer (some ⟨b, 0, none⟩)] w fun e w' => e = .returned (.tuple #[]) ∧ KeptB b D w w' ∧ ∃ v, w'.heap[b]? = some (.cells #[.pointer (some ⟨b, 0, none⟩), v] 56 (0, 0)) ∧ w'.ownsRow D 5 1 v bs.length bs := by
  obtain ⟨h1, h2, p, v, hp, hb, ho⟩ := h
  have c0 : w.cell? ⟨b, 0, none⟩ = some p := by rw [Lib.cell_of_heap hb]; rfl
  rcases hp with rfl | rfl
  · refine (Any.Builder_copyCheck_fresh layC layC_x.toX72 b w c0 (by simp [World.shape?, hb]; rfl) (Lib.frozen_of_heap hb 0)).mono ?_
    rintro e w' ⟨rfl, rfl⟩
    have hg : w.grownBy (w.setCell ⟨b, 0, none⟩ (.pointer (some ⟨b, 0, none⟩))) (some b) := ⟨rfl, rfl, rfl, by simp [World.setCell], fun k _ hk => Below.heap_setCell _ _ _ _ (fun e => hk (by simp [e]))⟩
    refine ⟨rfl, ⟨rfl, rfl, rfl, hg.size, fun k hk hn => hg.block k (by omega) (fun e => hn (by simpa using e))⟩, v, by simp [World.setCell, Array.getElem?_modify, hb], ho.kept hg ?_⟩
    exact .inr fun e => by have := (ho.lt b e).1; omega
  · refine (Any.Builder_copyCheck_used layC layC_x.toX72 b w c0).mono ?_
    rintro e w' ⟨rfl, rfl⟩
    exact ⟨rfl, .refl _ _ _, v, hb, ho⟩
theorem bld_put {D b : Nat} {bs : List Value} {w : World} {v v' : Value} (hbD : b < D) (hb : w.heap[b]? = some (.cells #[.pointer (some ⟨b, 0, none⟩), v] 56 (0, 0))) (hD : D ≤ w.heap.size) (hown : w.ownsRow D 5 1 v' bs.length bs) : Bld D b bs (w.setCell ⟨b, 1, none⟩ v') := by
  refine ⟨hbD, by simp [World.setCell]; exact hD, _, v', .inr rfl, by simp [World.setCell, Array.getElem?_modify, hb], ?_⟩
  refine hown.kept (row := some b) ⟨rfl, rfl, rfl, by simp [World.setCell], fun k _ hk => Below.heap_setCell _ _ _ _ (fun e => hk (by simp [e]))⟩ ?_
  exact .inr fun e => by have := (hown.lt b e).1; omega
theorem WriteString_b (D b : Nat) (bs : List Value) (s : ByteArray) (w : World) (h : Bld D b bs w) (hlen : bs.length + s.size ≤ 140737488355328) :
    Calls Try.prog 40 #[.pointer (some ⟨b, 0, none⟩), .string s] w fun e w' => e = .returned (.tuple #[.int .i64 s.size, .nilIface]) ∧ (Bld D b (bs ++ Lib.strCells s) w' ∧ KeptB b D w w') := by
  obtain ⟨i0, hi, hz0, hz1, hz2⟩ := info_parts layW_x.infoByte
  have hbD := h.1
  have hDw := h.2.1
  have H1 := Lib.hid (copyCheck_b D b bs w h)
  go_enter Try.func40, Try.ntmps40
  go_wp2_with (go_at_call 49; refine H1.out.mono ?_)
  rintro e w1 ⟨rfl, hk1, v, hbk, hown⟩
  have hs1 := hk1.size
  have c1 : w1.cell? ⟨b, 1, none⟩ = some v := by rw [Lib.cell_of_heap hbk]; rfl
  have hlt : b < w1.heap.size := by omega
  have hne : v.ownBlock ≠ some b := fun e => by have := (hown.lt b e).1; omega
  go_wp2_with (at_builtin; refine Lib.wpList_append_own_string _ rfl _ _ 49 9 rfl D 5 i0 Try.underlying49 Try.underlying9 hi hz0 hz1 hz2 _ _ _ rfl hown s rfl ?c3 ?c4 ?c5 ?_)
  case c3 => unfold maxLen; omega
  case c4 => omega
  case c5 => omega
  intro v' w2 hown' hgrow _
  have hb2 : w2.heap[b]? = some (.cells #[.pointer (some ⟨b, 0, none⟩), v] 56 (0, 0)) := (hgrow.block b hlt (fun e => hne e.symm)).trans hbk
  have d0 : w2.cell? ⟨b, 0, none⟩ = some (.pointer (some ⟨b, 0, none⟩)) := by rw [Lib.cell_of_heap hb2]; rfl
  have d1 : w2.cell? ⟨b, 1, none⟩ = some v := by rw [Lib.cell_of_heap hb2]; rfl
  have f1 : w2.frozen? ⟨b, 1, none⟩ = false := Lib.frozen_of_heap hb2 1
  have hk2 := Lib.hid (hk1.trans (KeptB.push (O := b) (k := 1) (v' := v') (by omega) hgrow (fun k hk => (hown.lt k hk).1)))
  have hb3 := Lib.hid (bld_put (D := D) (b := b) (bs := bs ++ Lib.strCells s) hbD hb2 (by have := hgrow.size; omega) (by simpa [Lib.strCells_length] using hown'))
  obtain ⟨ao, n', cap, rfl⟩ : ∃ ao n' cap, v' = .slice ao n' cap := by
    rcases hown'.2 with ⟨hv, _⟩ | ⟨g, cap, cur, hv, _⟩
    · exact ⟨_, _, _, hv⟩
    · exact ⟨_, _, _, hv⟩
  go_wp2
  go_ret2
  exact ⟨rfl, hb3.out, hk2.out⟩
theorem WriteByte_b (D b : Nat) (bs : List Value) (c : Int) (w : World) (h : Bld D b bs w) (hlen : bs.length + 1 ≤ 140737488355328) :
    Calls Try.prog 41 #[.pointer (some ⟨b, 0, none⟩), .int .u8 c] w fun e w' => e = .returned .nilIface ∧ (Bld D b (bs ++ [.int .u8 c]) w' ∧ KeptB b D w w') := by
  obtain ⟨i0, hi, hz0, hz1, hz2⟩ := info_parts layW_x.infoByte
  have hbD := h.1
  have hDw := h.2.1
  have H1 := Lib.hid (copyCheck_b D b bs w h)
  go_enter Try.func41, Try.ntmps41
  go_wp2_with (go_at_call 49; refine H1.out.mono ?_)
  rintro e w1 ⟨rfl, hk1, v, hbk, hown⟩
  have hs1 := hk1.size
  have c1 : w1.cell? ⟨b, 1, none⟩ = some v := by rw [Lib.cell_of_heap hbk]; rfl
  have hlt : b < w1.heap.size := by omega
  have hne : v.ownBlock ≠ some b := fun e => by have := (hown.lt b e).1; omega
  go_wp2_with (at_builtin; refine wpList_append_own _ rfl _ _ 49 rfl D 5 i0 (.int .u8 0) 1 1 Try.underlying49 hi hz0 hz1 hz2 rfl (by decide) _ _ _ rfl (hown.alloc _) ⟨w1.heap.size, 0, none⟩ 1 1 [.int .u8 c] rfl rfl ?c1 ?c2 ?c3 ?c4 ?c5 ?_)
  case c1 =>
    intro j u hj
    match j, hj with
    | 0, hj => simp at hj; subst hj; simp [Addr.add]
  case c2 => intro u hu; simp at hu; subst hu; rfl
  case c3 => unfold maxLen; omega
  case c4 => omega
  case c5 => simp; omega
  intro v' w2 hown' hgrow _
  have hb2 : w2.heap[b]? = some (.cells #[.pointer (some ⟨b, 0, none⟩), v] 56 (0, 0)) := by
    rw [hgrow.block b (by simp; omega) (fun e => hne e.symm), Lib.alloc_old w1 _ b hlt]
    exact hbk
  have d0 : w2.cell? ⟨b, 0, none⟩ = some (.pointer (some ⟨b, 0, none⟩)) := by rw [Lib.cell_of_heap hb2]; rfl
  have d1 : w2.cell? ⟨b, 1, none⟩ = some v := by rw [Lib.cell_of_heap hb2]; rfl
  have f1 : w2.frozen? ⟨b, 1, none⟩ = false := Lib.frozen_of_heap hb2 1
  have hk2 := Lib.hid (hk1.trans (KeptB.alloc _ (by omega) (KeptB.push (O := b) (k := 1) (v' := v') (by simp; omega) hgrow (fun k hk => (hown.lt k hk).1))))
  have hb3 := Lib.hid (bld_put (D := D) (b := b) (bs := bs ++ [.int .u8 c]) hbD hb2 (by have := hgrow.size; simp at this; omega) (by simpa using hown'))
  obtain ⟨g, cap, rfl⟩ : ∃ g cap, v' = .slice (some ⟨g, 0, none⟩) (bs.length + 1) cap := by
    rcases hown'.2 with ⟨_, h0⟩ | ⟨g, cap, cur, hv, _⟩
    · omega
    · exact ⟨g, cap, hv⟩
  go_wp2
  go_ret
  exact ⟨rfl, hb3.out, hk2.out⟩
end Go.Proofs.Ytnkbeaipgadphaa
