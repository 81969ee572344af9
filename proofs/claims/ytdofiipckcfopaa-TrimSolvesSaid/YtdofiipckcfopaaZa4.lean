/- What the steps of the layer trim compute: unit. / What the steps of the layer trim compute: pure. -/
import Derived.Deep.OwnRows
import Derived.Test.YtdofiipckcfopaaZa3
namespace Go.Proofs.Ytdofiipckcfopaa
open Go.RowKit

def setUn (s : TrS) (o : Option Int) : TrS := match o with | some n => { fixS s n with U := s.U ++ [n] } | none => s
def UPost (X : Nat → Prop) (g vars : Nat) (s : TrS) (w : World) (e : Ending) (w' : World) : Prop := e = .returned (.bool (unitC s.C).isSome) ∧ Ch (fun b => ¬ X b) w w' ∧ Wk w' X g vars (setUn s (unitC s.C))
set_option maxHeartbeats 400000 in
theorem unitFn_any (s : Value) (l : List Int) (w : World) {B : Nat} (hs : RInts w (Lt B) s l) :
    Calls Try.prog 60 #[s] w fun e w' => e = .returned (.bool (decide (l.length = 1))) ∧ Below w.heap.size w w' := by
  obtain ⟨A, c, rfl, hm, _⟩ := hs.open_
  by_cases h : l.length = 1
  · have hz : ((l.length : Int) == 1) = true := by simp [h]
    have Hh := Lib.hid h; clear h
    go_enter Try.func60, Try.ntmps60
    go_wp2
    go_ret
    exact ⟨ret_bool (by simp [Hh.out]), Below.refl _ _⟩
  · have hz : ((l.length : Int) == 1) = false := by simp; omega
    have Hh := Lib.hid h; clear h
    go_enter Try.func60, Try.ntmps60
    go_wp2
    go_ret
    exact ⟨ret_bool (by simp [Hh.out]), Below.refl _ _⟩
theorem callFunc_unit : ∀ (args : Array Value) (w : World), (callFunc 60 args).run Try.prog w = .ok (.enter 60 args) w := callFunc_run Try.func60 (by kernel_rfl) (by kernel_rfl)
theorem WkAt.step {w w' : World} {X : Nat → Prop} {g vars : Nat} {C : Cls} {F U : List Int} {E : Bool} {vC vF vU : Value} {cs : List Value} (h : WkAt w X g vars C F U E vC vF vU cs) {D : Nat → Prop} (hc : Ch D w w') (hd : ∀ b, D b → FP g vC vF vU b) : Ch (fun b => ¬ X b) w w' :=
  hc.imp fun i _ d => h.xs i (hd i d)
set_option maxRecDepth 100000 in
set_option maxHeartbeats 4000000 in
theorem unit_any (X : Nat → Prop) (g vars : Nat) (s : TrS) (w : World) (hw : Wk w X g vars s) (hok : clsOk vars s.C) (hv : vars ≤ 1024) (hcl : s.C.length ≤ 1000000) (hfl : s.F.length ≤ 1000000) (hul : s.U.length ≤ 1000000) :
    Calls Try.prog 40 #[.pointer (some ⟨g, 0, none⟩)] w (UPost X g vars s w) := by
  obtain ⟨vC, vF, vU, cs, h⟩ := hw
  obtain ⟨_, hc1, _, _, _⟩ := h.cell
  obtain ⟨A, c, rfl, hm, hat⟩ := h.reads.open_
  obtain ⟨AU, kU, rfl⟩ := own_shape h.oU
  have H := Lib.hid h
  have Hat := Lib.hid hat
  have hF : ∀ i, i < s.C.length → decide ((atC s.C i).length = 1) = false → unAt s.C i = none := fun i _ hp => by rw [unAt, if_neg (by simpa using hp)]
  have Hf := Lib.hid (fun c (_ : c ∈ s.C) (w' : World) (u : Value) (hu : RInts w' (Lt w'.heap.size) u c) => unitFn_any u c w' hu)
  rcases idxL_cases (fun c : List Int => decide (c.length = 1)) s.C with ⟨hi, hx⟩ | ⟨i, hi, hx, hil, hp⟩
  · have Hk := Lib.hid (show unitC s.C = none from firstN_idx_none (p := fun c : List Int => decide (c.length = 1)) hF hx)
    have Hi := Lib.hid hi
    clear h hat hi hx hF
    go_enter Try.func40, Try.ntmps40
    go_wp2_with (go_at_call 55; refine (IndexFuncL_any _ (fun c : List Int => decide (c.length = 1)) _ s.C _ H.out.reads callFunc_unit Hf.out).mono ?_; rintro e w1 ⟨rfl, hb1⟩; rw [Hi.out])
    go_ret
    refine ⟨by rw [Hk.out]; rfl, ch_refl' hb1, ?_⟩
    rw [Hk.out]
    exact (H.out.keep hb1).wk
  · have hp1 : s.C[i].length = 1 := by simpa using hp
    obtain ⟨n, hn⟩ := List.length_eq_one_iff.1 hp1
    have Hk := Lib.hid (show unitC s.C = some n from firstN_idx_some (p := fun c : List Int => decide (c.length = 1)) hF hx (by rw [unAt, atC_eq hil, if_pos hp1, hn]; rfl))
    obtain ⟨bi, offi, ui, rfl, hbi, hcelli, hui⟩ := hat.lt_ hil
    obtain ⟨A2, c2, rfl, hm2, hat2⟩ := hui.open_
    obtain ⟨b0, off0, u0, rfl, hb0, hcell0, hu0⟩ := hat2.lt_ (k := 0) (by omega)
    obtain rfl := hu0
    have hlo : litOk vars n := (hok _ (List.getElem_mem hil)).2 n (by rw [hn]; simp)
    have hl1 : -1024 ≤ n := by obtain ⟨_, a, b⟩ := hlo; omega
    have hl2 : n ≤ 1024 := by obtain ⟨_, a, b⟩ := hlo; omega
    have hl3 : 0 < s.C[i].length := by omega
    have hn0 : s.C[i][0]'(by omega) = n := by simp [hn]
    rw [hn0, Nat.add_zero] at hcell0
    have Hi := Lib.hid hi
    have hcF := H.out.ltC
    clear h hat hi hx hF hp hp1 hn hat2 hui hlo hn0
    go_enter Try.func40, Try.ntmps40
    go_wp2_with (first
      | (go_at_call 55
         refine (IndexFuncL_any _ (fun c : List Int => decide (c.length = 1)) _ s.C _ H.out.reads callFunc_unit Hf.out).mono ?_
         rintro e w1 ⟨rfl, hb1⟩
         rw [Hi.out]
         have H1 := Lib.hid (H.out.keep hb1)
         obtain ⟨_, hd1, _, hd3, _⟩ := H1.out.cell
         have hdf := H1.out.frozen 3
         have he1 := (hb1.cell (p := ⟨bi, offi + i, none⟩) hbi).trans hcelli
         have he2 := (hb1.cell (p := ⟨b0, off0, none⟩) hb0).trans hcell0
         have hgl := H1.out.lt
         have Hch := Lib.hid (ch_refl' (D := fun b => ¬ X b) hb1)
         clear hb1)
      | (at_builtin
         go_must (refine wpList_push rfl _ _ _ rfl eInt (v := .slice AU s.U.length kU) rfl (H1.out.oU.alloc _) w1.heap.size (.int .i64 n) rfl (by simp [go_sem]) rfl (by omega) (by simp; omega) ?_)
         intro v3 w3 ho3 hg3 hat3
         obtain ⟨A3, k3, rfl⟩ := own_shape ho3
         go_must (have HK := Lib.hid (H1.out.keep (below_alloc w1 (.cells #[.int .i64 n] 3))))
         go_must (have hb3 := HK.out.midg hg3 (fun e => by have := HK.out.gne.2.2 g e; omega))
         go_must (have hf1 : w3.cell? ⟨g, 3, none⟩ = some (.slice AU s.U.length kU) := (by rw [cell_of_row _ _ 3 _ _ _ hb3]; rfl))
         go_must (have hf2 : w3.frozen? ⟨g, 3, none⟩ = false := frozen_of_row w3 g 3 _ _ hb3)
         go_must (have HP := Lib.hid (HK.out.pushU ho3 hg3 hat3))
         go_must (have Hch3 := Lib.hid (Hch.out.trans ((ch_refl' (below_alloc w1 (.cells #[.int .i64 n] 3))).trans ((HK.out.step (ch_grown hg3) fun b e => .inr (.inr (.inr e))).trans ((ch_set w3 g 3 (.slice A3 (s.U.length + 1) k3)).imp fun i _ e => HK.out.xs i (.inl e))))))
         clear hb3)
      | (go_at_call 61
         refine (fix_any X g vars ⟨s.C, s.F, s.U ++ [n], s.E⟩ n _ HP.out.wk hok hl1 hl2 hcl hfl).mono ?_
         rintro e w5 ⟨rfl, hch5, hwk5⟩))
    go_ret
    refine ⟨by rw [Hk.out]; rfl, Hch3.out.trans hch5, ?_⟩
    rw [Hk.out]
    exact hwk5
end Go.Proofs.Ytdofiipckcfopaa

namespace Go.Proofs.Ytdofiipckcfopaa
open Go.RowKit

def setPu (s : TrS) (o : Option Int) : TrS := match o with | some n => fixS s n | none => s
def PPost (X : Nat → Prop) (g vars : Nat) (s : TrS) (w : World) (e : Ending) (w' : World) : Prop := e = .returned (.bool (pureC vars s.C).isSome) ∧ Ch (fun b => ¬ X b) w w' ∧ Wk w' X g vars (setPu s (pureC vars s.C))
/-- What was met among literals: of a variable v, at 2 v, and of the other literal, at 2 v + 1. -/
def metF (L : List Int) (j : Nat) : Bool := if j % 2 = 0 then hasB L ((j / 2 : Nat) : Int) else hasB L (-((j / 2 : Nat) : Int))
theorem metF_pos {L : List Int} {p : Nat} (hp : 0 < p) (j : Nat) : metF (L ++ [(p : Int)]) j = if j = p * 2 then true else metF L j := by
  unfold metF hasB
  simp only [List.contains_append, List.contains_cons, List.contains_nil, Bool.or_false]
  by_cases h : j = p * 2
  · have e1 : j % 2 = 0 := by omega
    have e2 : j / 2 = p := by omega
    simp [h]
  · by_cases hj : j % 2 = 0
    · have e : (((j / 2 : Nat) : Int) == (p : Int)) = false := by simp; omega
      simp only [hj, h, if_true, if_false, e, Bool.or_false]
    · have e : ((-((j / 2 : Nat) : Int)) == (p : Int)) = false := by simp; omega
      simp only [hj, h, if_false, e, Bool.or_false]
theorem metF_neg {L : List Int} {p : Nat} (hp : 0 < p) (j : Nat) : metF (L ++ [-(p : Int)]) j = if j = p * 2 + 1 then true else metF L j := by
  unfold metF hasB
  simp only [List.contains_append, List.contains_cons, List.contains_nil, Bool.or_false]
  by_cases h : j = p * 2 + 1
  · have e1 : ¬ j % 2 = 0 := by omega
    have e2 : j / 2 = p := by omega
    rw [if_neg e1, if_pos h, e2]; simp
  · by_cases hj : j % 2 = 0
    · have e : (((j / 2 : Nat) : Int) == -(p : Int)) = false := by simp; omega
      simp only [hj, h, if_true, if_false, e, Bool.or_false]
    · have e : ((-((j / 2 : Nat) : Int)) == -(p : Int)) = false := by simp; omega
      simp only [hj, h, if_false, e, Bool.or_false]
theorem hasB_flatten (C : Cls) (v : Int) : hasB C.flatten v = posB C v := by
  rw [Bool.eq_iff_iff, hasB_iff, posB_iff, List.mem_flatten]
theorem metF_all (C : Cls) (v : Nat) : metF C.flatten (v * 2) = posB C v ∧ metF C.flatten (v * 2 + 1) = posB C (-(v : Int)) := by
  unfold metF
  rw [if_pos (by omega), if_neg (by omega), show v * 2 / 2 = v by omega, show (v * 2 + 1) / 2 = v by omega]
  exact ⟨hasB_flatten _ _, hasB_flatten _ _⟩
theorem flat_succ {C : Cls} {i : Nat} (h : i < C.length) : (C.take (i + 1)).flatten = (C.take i).flatten ++ C[i] := by
  rw [List.take_succ_eq_append_getElem h, List.flatten_append]; simp
theorem made_pairs (w : World) (n : Nat) (t : TypeId) : (w.alloc (.cells (madeCells #[.bool false, .bool false] (n * 2)) t)).rowIs w.heap.size t (n * 2) (fun j => .bool (metF [] j)) := by
  have h := World.rowIs_alloc w (madeCells #[.bool false, .bool false] (n * 2)) t (fun j => .bool (metF [] j)) (fun i hi => by
    rw [size_madeCells] at hi
    have h2 : i % 2 = 0 ∨ i % 2 = 1 := by omega
    rcases h2 with h2 | h2 <;> simp [madeCells, metF, hasB, h2, hi])
  rwa [size_madeCells] at h
set_option maxRecDepth 100000 in
set_option maxHeartbeats 4000000 in
theorem pure_any (X : Nat → Prop) (g vars : Nat) (s : TrS) (w : World) (hw : Wk w X g vars s) (hok : clsOk vars s.C) (hv : vars ≤ 1024) (hcl : s.C.length ≤ 1000000) (hfl : s.F.length ≤ 1000000) :
    Calls Try.prog 41 #[.pointer (some ⟨g, 0, none⟩)] w (PPost X g vars s w) := by
  obtain ⟨vC, vF, vU, cs, h⟩ := hw
  obtain ⟨hc0, hc1, _, _, _⟩ := h.cell
  obtain ⟨A, c, rfl, hm, hat⟩ := h.reads.open_
  have H := Lib.hid h
  have hgl := h.lt
  have hmk : (Instr.makeSlice 96 (.int .i64 ((vars : Int) + 1)) (.int .i64 ((vars : Int) + 1))).run Try.prog w = .ok (.slice (some ⟨w.heap.size, 0, none⟩) (vars + 1) (vars + 1)) (w.alloc (.cells (madeCells #[.bool false, .bool false] ((vars + 1) * 2)) 97)) := by
    obtain ⟨i, hi, hz0, hz1, hz2⟩ := info_parts (P := Try.prog) (e := 97) (z := .agg #[.bool false, .bool false]) (size := 2) (bytes := 2) (by kernel_rfl)
    have := run_make (P := Try.prog) w 96 97 i (.agg #[.bool false, .bool false]) Try.underlying96 hi hz0 .i64 .i64 ((vars : Int) + 1) ((vars : Int) + 1) (by omega) (by omega) (by rw [hz2]; omega) (by omega)
    rw [hz1, show ((vars : Int) + 1).toNat = vars + 1 by omega] at this
    exact this
  have Hat := Lib.hid hat
  clear h hat
  go_enter Try.func41, Try.ntmps41
  go_wp2
  have hb0 := below_alloc w (.cells (madeCells #[.bool false, .bool false] ((vars + 1) * 2)) 97)
  have hrow0 := made_pairs w (vars + 1) 97
  go_loopw [21] (fun sv wr => ∃ i : Nat, i ≤ s.C.length ∧ sv = .int .i64 i ∧ Below w.heap.size w wr ∧ wr.rowIs w.heap.size 97 ((vars + 1) * 2) (fun j => .bool (metF (s.C.take i).flatten j))) (fun sv _ => s.C.length - (intOf sv).toNat)
  case atStart => exact ⟨0, Nat.zero_le _, rfl, hb0, hrow0⟩
  case round =>
    obtain ⟨i, hile, rfl, hbel, hrow⟩ := hrel
    have Hbel := Lib.hid hbel
    have Hrow := Lib.hid hrow
    clear hbel hrow
    by_cases hilt : i < s.C.length
    · obtain ⟨bi, offi, ui, rfl, hbi, hcelli, hui⟩ := Hat.out.lt_ hilt
      have hci := (Hbel.out.cell (p := ⟨bi, offi + i, none⟩) hbi).trans hcelli
      obtain ⟨A2, c2, rfl, hm2, hat2⟩ := hui.open_
      have Hat2 := Lib.hid hat2
      have Hlo := Lib.hid (hok _ (List.getElem_mem hilt)).2
      have Hfs := Lib.hid (flat_succ hilt)
      clear hat2 hui hcelli
      go_wp2
      go_loopw [27] (fun sv wr' => ∃ q : Nat, q ≤ s.C[i].length ∧ sv = .int .i64 q ∧ Below w.heap.size w wr' ∧ wr'.rowIs w.heap.size 97 ((vars + 1) * 2) (fun j => .bool (metF ((s.C.take i).flatten ++ s.C[i].take q) j))) (fun sv _ => s.C[i].length - (intOf sv).toNat)
      case atStart => exact ⟨0, Nat.zero_le _, rfl, Hbel.out, by rw [List.take_zero, List.append_nil]; exact Hrow.out⟩
      case round =>
        rename_i wr'
        obtain ⟨q, hqle, rfl, hbel2, hrow2⟩ := hrel
        have Hbel2 := Lib.hid hbel2
        have Hrow2 := Lib.hid hrow2
        clear hbel2 hrow2
        by_cases hqlt : q < s.C[i].length
        · obtain ⟨bq, offq, uq, rfl, hbq, hcellq, huq⟩ := Hat2.out.lt_ hqlt
          obtain rfl := huq
          obtain ⟨hl0, hl1, hl2⟩ := Hlo.out _ (List.getElem_mem hqlt)
          have Htq := Lib.hid (List.take_succ_eq_append_getElem hqlt)
          obtain ⟨n, hn⟩ : ∃ n, n = s.C[i][q] := ⟨_, rfl⟩
          rw [← hn] at hcellq hl0 hl1 hl2 Htq
          have hcq := (Hbel2.out.cell (p := ⟨bq, offq + q, none⟩) hbq).trans hcellq
          clear hcellq hn
          by_cases hpos : 0 < n
          · obtain ⟨p, rfl⟩ := Int.eq_ofNat_of_zero_le (Int.le_of_lt hpos)
            have hp : 0 < p := by omega
            have hpv : p ≤ vars := by omega
            have hcp := Hrow2.out.cell (i := p * 2) (by omega)
            have hcf := Hrow2.out.frozen (p * 2)
            clear hl0 hl1 hl2
            go_wp2
            go_roundw
            case rel => exact ⟨q + 1, by omega, by go_num, Hbel2.out.setCell (Nat.le_refl _) _, ((Hrow2.out.set (p * 2) (.bool true)).congr fun j _ => by rw [Htq.out, ← List.append_assoc, metF_pos hp j]; split <;> rfl)⟩
            case measure => simp [intOf]; omega
          · obtain ⟨p, rfl⟩ : ∃ p : Nat, n = -(p : Int) := ⟨(-n).toNat, by omega⟩
            have hp : 0 < p := by omega
            have hpv : p ≤ vars := by omega
            have hcp := Hrow2.out.cell (i := p * 2 + 1) (by omega)
            have hcf := Hrow2.out.frozen (p * 2 + 1)
            have hnp : decide (0 < -(p : Int)) = false := by simp
            clear hl0 hl1 hl2 hpos
            go_wp2
            go_roundw
            case rel => exact ⟨q + 1, by omega, by go_num, Hbel2.out.setCell (Nat.le_refl _) _, ((Hrow2.out.set (p * 2 + 1) (.bool true)).congr fun j _ => by rw [Htq.out, ← List.append_assoc, metF_neg hp j]; split <;> rfl)⟩
            case measure => simp [intOf]; omega
        · obtain rfl : q = s.C[i].length := by omega
          rw [List.take_length] at Hrow2
          go_wp2
          go_roundw
          case rel => exact ⟨i + 1, by omega, by go_num, Hbel2.out, by rw [Hfs.out]; exact Hrow2.out⟩
          case measure => simp [intOf]; omega
    · obtain rfl : i = s.C.length := by omega
      rw [List.take_length] at Hrow
      clear hilt hile Hat
      go_wp2
      go_loopw [46] (fun sv wr' => ∃ v : Nat, v ≤ vars + 1 ∧ sv = .int .i64 v ∧ Below w.heap.size w wr' ∧ wr'.rowIs w.heap.size 97 ((vars + 1) * 2) (fun j => .bool (metF s.C.flatten j)) ∧ Hid (firstN (puAt s.C) v = none)) (fun sv _ => vars + 1 - (intOf sv).toNat)
      case atStart => exact ⟨0, Nat.zero_le _, rfl, Hbel.out, Hrow.out, hid_first _⟩
      case round =>
        rename_i wr'
        obtain ⟨v, hvle, rfl, hbel2, hrow2, hinv⟩ := hrel
        have Hbel2 := Lib.hid hbel2
        have Hrow2 := Lib.hid hrow2
        clear hbel2 hrow2
        by_cases hvlt : v < vars + 1
        · have hca := Hrow2.out.cell (i := v * 2) (by omega)
          have hcb := Hrow2.out.cell (i := v * 2 + 1) (by omega)
          simp only [metF_all] at hca hcb
          have hsz := Hrow2.out.lt
          cases hp : posB s.C v with
          | true =>
            cases hq : posB s.C (-(v : Int)) with
            | true =>
              have Hk := Lib.hid (show firstN (puAt s.C) (v + 1) = none from firstN_go hinv.out (by rw [puAt, hp, hq]; rfl))
              rw [hp] at hca
              rw [hq] at hcb
              clear hp hq
              go_wp2
              go_roundw
              case rel => exact ⟨v + 1, by omega, by go_num, Hbel2.out.alloc Hbel2.out.size _, Hrow2.out.alloc _, Hk⟩
              case measure => simp [intOf]; omega
            | false =>
              have Hk := Lib.hid (show pureC vars s.C = some (v : Int) from firstN_hit hinv.out (by rw [puAt, hp, hq]; rfl) hvlt)
              rw [hp] at hca
              rw [hq] at hcb
              clear hp hq
              go_wp2_with (go_at_call 61; refine (fix_any X g vars s v _ (H.out.keep (Hbel2.out.alloc Hbel2.out.size _)).wk hok (by omega) (by omega) hcl hfl).mono ?_; rintro e w5 ⟨rfl, hch5, hwk5⟩)
              go_ret
              refine ⟨by rw [Hk.out]; rfl, (ch_refl' (Hbel2.out.alloc Hbel2.out.size _)).trans hch5, ?_⟩
              rw [Hk.out]
              exact hwk5
          | false =>
            cases hq : posB s.C (-(v : Int)) with
            | true =>
              have Hk := Lib.hid (show pureC vars s.C = some (-(v : Int)) from firstN_hit hinv.out (by rw [puAt, hp, hq]; rfl) hvlt)
              rw [hp] at hca
              rw [hq] at hcb
              clear hp hq
              go_wp2_with (go_at_call 61; refine (fix_any X g vars s (-(v : Int)) _ (H.out.keep (Hbel2.out.alloc Hbel2.out.size _)).wk hok (by omega) (by omega) hcl hfl).mono ?_; rintro e w5 ⟨rfl, hch5, hwk5⟩)
              go_ret
              refine ⟨by rw [Hk.out]; rfl, (ch_refl' (Hbel2.out.alloc Hbel2.out.size _)).trans hch5, ?_⟩
              rw [Hk.out]
              exact hwk5
            | false =>
              have Hk := Lib.hid (show firstN (puAt s.C) (v + 1) = none from firstN_go hinv.out (by rw [puAt, hp, hq]; rfl))
              rw [hp] at hca
              rw [hq] at hcb
              clear hp hq
              go_wp2
              go_roundw
              case rel => exact ⟨v + 1, by omega, by go_num, Hbel2.out.alloc Hbel2.out.size _, Hrow2.out.alloc _, Hk⟩
              case measure => simp [intOf]; omega
        · obtain rfl : v = vars + 1 := by omega
          have Hk := Lib.hid (show pureC vars s.C = none from hinv.out)
          go_wp2
          go_ret
          refine ⟨by rw [Hk.out]; rfl, ch_refl' Hbel2.out, ?_⟩
          rw [Hk.out]
          exact (H.out.keep Hbel2.out).wk
end Go.Proofs.Ytdofiipckcfopaa
