/- pomaceref06.Pieces: a text cut at its colons. -/
import Derived.Test.YtldhgdoeehnbjaaDoorCoD3
namespace Go.Proofs.YtldhgdoeehnbjaaDoor
open Go.RowKit
open C01

theorem eStr : Elem1 Tryd.prog 36 9 16 := elem1_mk (z := .string ⟨#[]⟩) Tryd.underlying36 (by kernel_rfl) (by omega) rfl
theorem own_set1 {w : World} {base g cap n : Nat} {t : TypeId} {xs : List Value} (h : w.ownsRow base t 1 (.slice (some ⟨g, 0, none⟩) n cap) n xs) (j : Nat) (u : Value) : (w.setCell ⟨g, j, none⟩ u).ownsRow base t 1 (.slice (some ⟨g, 0, none⟩) n cap) n (xs.set j u) := by
  have hxl : xs.length = n := by simpa using h.1
  obtain ⟨_, ⟨h, _⟩ | ⟨g', cap', cur, h, hbg, hh, hnc, hcm, hsz, htk⟩⟩ := h
  · cases h
  cases h
  refine ⟨by simp; omega, .inr ⟨g, cap, _, rfl, hbg, heap_setCell_same w g j cur t u hh, hnc, hcm, by simpa using hsz, ?_⟩⟩
  rw [← htk, Array.toList_setIfInBounds, List.take_set]
theorem one_byte {s : ByteArray} {i : Nat} (h : i < s.size) : ∃ c : UInt8, s.extract i (i + 1) = ⟨#[c]⟩ ∧ c.toNat = byteN s i ∧ s.data.toList.take (i + 1) = s.data.toList.take i ++ [c] := by
  have h' : i < s.data.toList.length := by rw [Array.length_toList]; exact h
  refine ⟨s.data[i]'h, ?_, byteN_eq h, by rw [List.take_succ_eq_append_getElem h']; rfl⟩
  apply ByteArray.ext
  apply Array.ext'
  simp [ByteArray.data_extract]
  rw [List.take_one]
  simp [h]
abbrev datas (L : List ByteArray) : List (List UInt8) := L.map fun p => p.data.toList
/-- the pieces lie in a row of the call's own -/
def PiecesAt (s : ByteArray) (w : World) (e : Ending) (w' : World) : Prop :=
  ∃ g cap, e = .returned (.slice (some ⟨g, 0, none⟩) (pcs s).length cap) ∧ w.heap.size ≤ g ∧ g < w'.heap.size ∧ (∀ j (hj : j < (pcs s).length), w'.cell? ⟨g, j, none⟩ = some (.string (pcs s)[j])) ∧ Below w.heap.size w w'
theorem pieces_end {s : ByteArray} {w w' : World} {g cap : Nat} {L : List ByteArray} (hg : w.heap.size ≤ g) (ho : w'.ownsRow w.heap.size 9 1 (.slice (some ⟨g, 0, none⟩) L.length cap) L.length (L.map Value.string)) (hc : cutC s.data.toList = datas L) (hb : Below w.heap.size w w') :
    PiecesAt s w (.returned (.slice (some ⟨g, 0, none⟩) L.length cap)) w' := by
  have e := pcs_of hc
  refine ⟨g, cap, by rw [e], hg, (ho.lt g rfl).2, fun j hj => ?_, hb⟩
  have hj' : j < L.length := by rw [← e]; exact hj
  rw [ho.cellAt j (by omega), List.getElem?_map, List.getElem?_eq_getElem hj']
  simp only [e, Option.map_some]
theorem cut_push {s : ByteArray} {i : Nat} {c : UInt8} {L : List ByteArray} (ht : s.data.toList.take (i + 1) = s.data.toList.take i ++ [c]) (hc : c = 58) (h : cutC (s.data.toList.take i) = datas L) : cutC (s.data.toList.take (i + 1)) = datas (L ++ [⟨#[]⟩]) := by
  rw [ht, cutC_snoc, h]
  unfold snocC
  rw [if_pos hc]
  simp [datas]
theorem lastD_snoc {α : Type} (l : List α) (a d : α) : (l ++ [a]).getLastD d = a := by rw [List.getLastD_eq_getLast?]; simp
theorem cut_add {s : ByteArray} {i : Nat} {c : UInt8} {L : List ByteArray} {x : ByteArray} (ht : s.data.toList.take (i + 1) = s.data.toList.take i ++ [c]) (hc : c ≠ 58) (h : cutC (s.data.toList.take i) = datas (L ++ [x])) : cutC (s.data.toList.take (i + 1)) = datas (L ++ [x ++ ⟨#[c]⟩]) := by
  rw [ht, cutC_snoc, h]
  unfold snocC
  rw [if_neg hc]
  have e : datas (L ++ [x]) = datas L ++ [x.data.toList] := by simp [datas]
  rw [e, List.dropLast_concat, lastD_snoc]
  simp [datas]
set_option maxHeartbeats 2000000 in
theorem Pieces_any (s : ByteArray) (w : World) (hs : s.size ≤ 1000000) : Calls Tryd.prog 33 #[.string s] w (PiecesAt s w) := by
  have Hend := Lib.hid (fun (w' : World) (g cap : Nat) (L : List ByteArray) => pieces_end (s := s) (w := w) (w' := w') (g := g) (cap := cap) (L := L))
  have HO0 := Lib.hid (World.ownsRow_lit (base := w.heap.size) (e := 9) (size := 1) w #[.string ⟨#[]⟩] 1 (Nat.le_refl _) (by unfold maxLen; omega) rfl)
  have HB0 := Lib.hid (below_alloc w (.cells #[.string ⟨#[]⟩] 9))
  obtain ⟨B, hB⟩ : ∃ B, B = w.heap.size := ⟨_, rfl⟩
  go_enter Tryd.func33, Tryd.ntmps33
  go_wp2
  rw [← hB] at HO0 HB0 Hend ⊢
  have HBe := Lib.hid hB
  clear hB
  go_loopw [4, 3] (fun sv vv wr => ∃ (i : Nat) (L : List ByteArray) (x : ByteArray) (g cap : Nat), i ≤ s.size ∧ x.size ≤ i ∧ L.length ≤ i ∧ B ≤ g ∧ sv = .int .i64 i ∧ vv = .slice (some ⟨g, 0, none⟩) (L.length + 1) cap ∧ Hid (wr.ownsRow B 9 1 (.slice (some ⟨g, 0, none⟩) (L.length + 1) cap) (L.length + 1) ((L ++ [x]).map Value.string)) ∧ Hid (cutC (s.data.toList.take i) = datas (L ++ [x])) ∧ Hid (Below B w wr)) (fun sv _ _ => s.size - (intOf sv).toNat)
  case atStart => exact ⟨0, [], ⟨#[]⟩, B, 1, Nat.zero_le _, Nat.le_refl _, Nat.le_refl _, Nat.le_refl _, rfl, rfl, HO0, Lib.hid rfl, HB0⟩
  case round =>
    obtain ⟨i, L, x, g, cap, his, hxi, hLi, hBg, rfl, rfl, HO, HC, HB⟩ := hrel
    by_cases hi : i < s.size
    · obtain ⟨c, hc1, hc2, hc3⟩ := one_byte hi
      have hbn := byteN_eq hi
      rcases Classical.em (c = 58) with h58 | h58
      · have Hn := Lib.hid (cut_push hc3 h58 HC.out)
        have hb58 : byteN s i = 58 := by rw [← hc2, h58]; rfl
        rw [hb58] at hbn
        clear hc1 hc2 hc3 hb58 h58
        go_wp2_with (at_builtin; refine wpList_push rfl _ _ _ rfl eStr (v := .slice (some ⟨g, 0, none⟩) (L.length + 1) cap) rfl (HO.out.alloc _) wr.heap.size (.string ⟨#[]⟩) rfl (by simp [go_sem]) rfl (by omega) (by have := HB.out.size; have := HBe.out; simp; omega) ?_; intro v1 w5 hown1 hg1 hat1)
        obtain ⟨g', cap', rfl, hBg', _⟩ := hown1.form (by omega)
        have HB5 := Lib.hid ((HB.out.alloc (by have := HB.out.size; have := HBe.out; omega) _).grown hg1 (by have := HB.out.size; have := HBe.out; simp; omega) (fun i hi => (HO.out.lt i hi).1))
        have HO5 := Lib.hid hown1
        clear hown1 hg1 hat1
        go_wp2
        go_roundw
        case rel => exact ⟨i + 1, L ++ [x], ⟨#[]⟩, g', cap', by omega, Nat.zero_le _, by simp; omega, hBg', by go_num, by simp, Lib.hid (by simpa using HO5.out), Hn, HB5⟩
        case measure => simp [intOf]; omega
      · have Hn := Lib.hid (cut_add hc3 h58 HC.out)
        have hb58 : (((byteN s i : Nat) : Int) == 58) = false := beq_eq_false_iff_ne.2 (fun e => h58 (UInt8.toNat_inj.1 (by show c.toNat = 58; omega)))
        have hcell : wr.cell? ⟨g, L.length, none⟩ = some (.string x) := by
          rw [HO.out.cellAt L.length (by omega)]
          simp
        have hfz := HO.out.frozenAt L.length
        have HO5 := Lib.hid (show (wr.setCell ⟨g, L.length, none⟩ (.string (x ++ ⟨#[c]⟩))).ownsRow B 9 1 (.slice (some ⟨g, 0, none⟩) (L.length + 1) cap) (L.length + 1) ((L ++ [x ++ ⟨#[c]⟩]).map Value.string) by
          have h := own_set1 HO.out L.length (.string (x ++ ⟨#[c]⟩))
          simpa using h)
        have Hxs := Lib.hid (show (x ++ ⟨#[c]⟩).size ≤ i + 1 by rw [ByteArray.size_append]; show x.size + 1 ≤ _; omega)
        clear hc2 hc3 h58
        go_wp2
        go_region
        go_wp2
        go_roundw
        case rel => exact ⟨i + 1, L, x ++ ⟨#[c]⟩, g, cap, by omega, Hxs.out, by omega, hBg, by go_num, rfl, Lib.hid HO5.out.drew, Hn, Lib.hid (HB.out.setCell (p := ⟨g, L.length, none⟩) hBg _).drew⟩
        case measure => simp [intOf]; omega
    · obtain rfl : i = s.size := by omega
      have hfull : s.data.toList.take s.size = s.data.toList := List.take_of_length_le (by rw [Array.length_toList]; exact Nat.le_refl _)
      have HC2 := Lib.hid (show cutC s.data.toList = datas (L ++ [x]) by rw [← hfull]; exact HC.out)
      clear hfull
      go_wp2
      go_ret
      have h := Hend.out wr g cap (L ++ [x]) hBg (by simpa using HO.out) HC2.out HB.out
      simpa using h
end Go.Proofs.YtldhgdoeehnbjaaDoor
