/- What the steps of the layer trim compute: always, empty, covered. -/
import Derived.Test.YtdofiipckcfopaaTrimW2
namespace Go.Proofs.Ytdofiipckcfopaa
open Go.RowKit

theorem firstN_idx_none {β : Type} {C : Cls} {p : List Int → Bool} {F : Nat → Option β} (hF : ∀ i, i < C.length → p (atC C i) = false → F i = none) (h : C.findIdx? p = none) : firstN F C.length = none :=
  firstN_all fun i hi => hF i hi (by rw [atC_eq hi]; exact List.findIdx?_eq_none_iff.1 h _ (List.getElem_mem hi))
theorem firstN_idx_some {β : Type} {C : Cls} {p : List Int → Bool} {F : Nat → Option β} {i : Nat} {x : β} (hF : ∀ i, i < C.length → p (atC C i) = false → F i = none) (h : C.findIdx? p = some i) (hx : F i = some x) : firstN F C.length = some x := by
  obtain ⟨hi, _, hn⟩ := List.findIdx?_eq_some_iff_getElem.1 h
  refine firstN_hit (firstN_all fun j hj => hF j (by omega) ?_) hx hi
  rw [atC_eq (by omega)]
  simpa using hn j hj
theorem idxL_cases {α : Type} (p : α → Bool) (l : List α) : (idxL p l = -1 ∧ l.findIdx? p = none) ∨ ∃ i : Nat, idxL p l = (i : Int) ∧ l.findIdx? p = some i ∧ ∃ h : i < l.length, p l[i] = true := by
  unfold idxL
  cases h : l.findIdx? p with
  | none => exact .inl ⟨rfl, rfl⟩
  | some i =>
    obtain ⟨hi, hp, _⟩ := List.findIdx?_eq_some_iff_getElem.1 h
    exact .inr ⟨i, rfl, rfl, hi, hp⟩
theorem WkAt.wk {w : World} {X : Nat → Prop} {g vars : Nat} {C : Cls} {F U : List Int} {E : Bool} {vC vF vU : Value} {cs : List Value} (h : WkAt w X g vars C F U E vC vF vU cs) : Wk w X g vars ⟨C, F, U, E⟩ := ⟨_, _, _, _, h⟩
theorem ch_refl' {D : Nat → Prop} {a b : World} (h : Below a.heap.size a b) : Ch D a b := ch_new h D

set_option maxHeartbeats 1000000 in
theorem always_any (X : Nat → Prop) (g vars : Nat) (s : TrS) (w : World) (hw : Wk w X g vars s) (hok : clsOk vars s.C) (hv : vars ≤ 1024) (hn : s.C.length ≤ 1000000) :
    Calls Try.prog 38 #[.pointer (some ⟨g, 0, none⟩)] w (CPost X g vars s (alwaysC s.C) w) := by
  obtain ⟨vC, vF, vU, cs, h⟩ := hw
  obtain ⟨_, hc1, _, _, _⟩ := h.cell
  obtain ⟨A, c, rfl, hm, hat⟩ := h.reads.open_
  have H := Lib.hid h
  have hF : ∀ i, i < s.C.length → alwaysB (atC s.C i) = false → alAt s.C i = none := fun i _ hp => by rw [alAt, hp]; rfl
  have Hf := Lib.hid (fun c (hc : c ∈ s.C) (w' : World) (u : Value) (hu : RInts w' (Lt w'.heap.size) u c) => isAlways_any u c w' hu (hok c hc) hv)
  rcases idxL_cases alwaysB s.C with ⟨hi, hx⟩ | ⟨i, hi, hx, hil, hp⟩
  · have Hk := Lib.hid (show alwaysC s.C = none from firstN_idx_none hF hx)
    have Hi := Lib.hid hi
    clear h hat hi hx hF
    go_enter Try.func38, Try.ntmps38
    go_wp2_with (go_at_call 55; refine (IndexFuncL_any _ alwaysB _ s.C _ H.out.reads callFunc_isAlw Hf.out).mono ?_; rintro e w1 ⟨rfl, hb1⟩; rw [Hi.out])
    go_ret
    refine ⟨by rw [Hk.out]; rfl, ch_refl' hb1, ?_⟩
    rw [Hk.out]
    exact (H.out.keep hb1).wk
  · have Hk := Lib.hid (show alwaysC s.C = some (s.C.eraseIdx i) from firstN_idx_some hF hx (by rw [alAt, atC_eq hil, hp]; rfl))
    have Hi := Lib.hid hi
    clear h hat hi hx hF hp
    go_enter Try.func38, Try.ntmps38
    go_wp2_with (first
      | (go_at_call 55; refine (IndexFuncL_any _ alwaysB _ s.C _ H.out.reads callFunc_isAlw Hf.out).mono ?_; rintro e w1 ⟨rfl, hb1⟩; rw [Hi.out])
      | (go_at_call 57; refine (drop_any X g vars i s _ (H.out.keep hb1).wk hil hn).mono ?_; rintro e w2 ⟨rfl, hch, hwk⟩))
    go_ret
    refine ⟨by rw [Hk.out]; rfl, (ch_refl' hb1).trans hch, ?_⟩
    rw [Hk.out]
    exact hwk

def setEm (s : TrS) : TrS := if emptyB s.C then { s with C := [[]], E := true } else s
def EPost (X : Nat → Prop) (g vars : Nat) (s : TrS) (w : World) (e : Ending) (w' : World) : Prop := e = .returned (.bool (emptyB s.C)) ∧ Ch (fun b => ¬ X b) w w' ∧ Wk w' X g vars (setEm s)
set_option maxHeartbeats 400000 in
theorem emptyFn_any (s : Value) (l : List Int) (w : World) {B : Nat} (hs : RInts w (Lt B) s l) :
    Calls Try.prog 59 #[s] w fun e w' => e = .returned (.bool (decide (l.length = 0))) ∧ Below w.heap.size w w' := by
  obtain ⟨A, c, rfl, hm, _⟩ := hs.open_
  by_cases h : l.length = 0
  · have hz : ((l.length : Int) == 0) = true := by simp [h]
    have Hh := Lib.hid h; clear h
    go_enter Try.func59, Try.ntmps59
    go_wp2
    go_ret
    exact ⟨ret_bool (by simp [Hh.out]), Below.refl _ _⟩
  · have hz : ((l.length : Int) == 0) = false := by simp [h]
    have Hh := Lib.hid h; clear h
    go_enter Try.func59, Try.ntmps59
    go_wp2
    go_ret
    exact ⟨ret_bool (by simp [Hh.out]), Below.refl _ _⟩
theorem callFunc_empty : ∀ (args : Array Value) (w : World), (callFunc 59 args).run Try.prog w = .ok (.enter 59 args) w := callFunc_run Try.func59 (by kernel_rfl) (by kernel_rfl)
set_option maxHeartbeats 1000000 in
theorem empty_any (X : Nat → Prop) (g vars : Nat) (s : TrS) (w : World) (hw : Wk w X g vars s) (hE : s.E = false) :
    Calls Try.prog 39 #[.pointer (some ⟨g, 0, none⟩)] w (EPost X g vars s w) := by
  obtain ⟨vC, vF, vU, cs, h⟩ := hw
  obtain ⟨_, hc1, _, _, _⟩ := h.cell
  obtain ⟨A, c, rfl, hm, hat⟩ := h.reads.open_
  have H := Lib.hid h
  have HE := Lib.hid hE
  have Hf := Lib.hid (fun c (_ : c ∈ s.C) (w' : World) (u : Value) (hu : RInts w' (Lt w'.heap.size) u c) => emptyFn_any u c w' hu)
  cases he : emptyB s.C with
  | false =>
    have He := Lib.hid he
    clear h hat he hE
    go_enter Try.func39, Try.ntmps39
    go_wp2_with (go_at_call 58; refine (ContainsFuncL_any _ (fun c => decide (c.length = 0)) _ s.C _ H.out.reads callFunc_empty Hf.out).mono ?_; rintro e w1 ⟨rfl, hb1⟩; rw [show (s.C.any fun c => decide (c.length = 0)) = false from He.out]; have hd1 := (H.out.keep hb1).cell.2.2.2.2; rw [HE.out] at hd1)
    go_ret
    refine ⟨by rw [He.out]; rfl, ch_refl' hb1, ?_⟩
    rw [setEm, He.out]
    exact (H.out.keep hb1).wk
  | true =>
    have He := Lib.hid he
    clear h hat he hE
    go_enter Try.func39, Try.ntmps39
    go_wp2_with (go_at_call 58; refine (ContainsFuncL_any _ (fun c => decide (c.length = 0)) _ s.C _ H.out.reads callFunc_empty Hf.out).mono ?_; rintro e w1 ⟨rfl, hb1⟩; rw [show (s.C.any fun c => decide (c.length = 0)) = true from He.out]; obtain ⟨_, hd1, _, _, hd4⟩ := (H.out.keep hb1).cell; have hf := (H.out.keep hb1).frozen; have hgl := (H.out.keep hb1).lt)
    go_ret
    refine ⟨by rw [He.out]; rfl, ?_⟩
    have h1 := (H.out.keep hb1).keep (below_alloc w1 (.cells #[.slice none 0 0] 27))
    have ho := World.ownsRow_lit (base := g + 1) (e := 27) (size := 1) w1 #[.slice none 0 0] 1 (by omega) (by unfold maxLen; omega) rfl
    have hgl1 := (H.out.keep hb1).ltC
    have h2 := (h1.setC (vC' := .slice (some ⟨w1.heap.size, 0, none⟩) 1 1) (C' := [[]]) (cs' := [.slice none 0 0]) ho (fun i hi u hu => by
        match i, hi with
        | 0, _ => cases hu; exact RSl.nil_ _ _ _)
      (fun b hb hb2 => by have := hgl1.2.1 b hb2; have : w1.heap.size = b := (by simpa [Value.ownBlock] using hb); omega) (fun b hb hb2 => by have := hgl1.2.2 b hb2; have : w1.heap.size = b := (by simpa [Value.ownBlock] using hb); omega) (fun b hb x => by have := (H.out.keep hb1).xlt b x; have : w1.heap.size = b := (by simpa [Value.ownBlock] using hb); omega)).setE true
    rw [World.setCell_alloc_past _ _ _ _ hgl, World.setCell_alloc_past _ _ _ _ (by simpa using hgl)] at h2
    refine ⟨?_, ?_⟩
    · refine (ch_refl' hb1).trans (((ch_set w1 g 1 _).imp fun i _ e => H.out.xs i (.inl e)).trans (((ch_set _ g 4 _).imp fun i _ e => H.out.xs i (.inl e)).trans (ch_refl' (below_alloc _ _))))
    · rw [setEm, He.out]
      exact h2.wk

/-! ### Clauses that are covered -/
theorem cvB_iff {C : Cls} {i k : Nat} : cvB C i k = true ↔ i ≠ k ∧ (atC C i).length ≤ (atC C k).length ∧ ¬ ((atC C i).length = (atC C k).length ∧ k < i) ∧ withinB (atC C i) (atC C k) = true := by
  unfold cvB
  simp only [Bool.not_eq_true', Bool.or_eq_false_iff, decide_eq_false_iff_not, Bool.and_eq_false_iff, Bool.not_eq_false']
  constructor
  · rintro ⟨⟨⟨a, b⟩, c⟩, d⟩
    exact ⟨a, by omega, fun e => by rcases c with c | c <;> omega, d⟩
  · rintro ⟨a, b, c, d⟩
    exact ⟨⟨⟨a, by omega⟩, by rcases Nat.lt_or_ge k i with h | h
                              · exact .inl fun e => c ⟨e, h⟩
                              · exact .inr (by omega)⟩, d⟩
def cvA (C : Cls) (i k : Nat) : Option Cls := if cvB C i k then some (C.eraseIdx k) else none
set_option maxRecDepth 100000 in
set_option maxHeartbeats 4000000 in
theorem covered_any (X : Nat → Prop) (g vars : Nat) (s : TrS) (w : World) (hw : Wk w X g vars s) (hn : s.C.length ≤ 1000000) :
    Calls Try.prog 42 #[.pointer (some ⟨g, 0, none⟩)] w (CPost X g vars s (coverC s.C) w) := by
  have Hw := Lib.hid hw
  obtain ⟨vC, vF, vU, cs, h⟩ := hw
  obtain ⟨_, hc1, _, _, _⟩ := h.cell
  obtain ⟨A, c, rfl, hm, hat⟩ := h.reads.open_
  have Hat := Lib.hid hat
  clear h hat
  go_enter Try.func42, Try.ntmps42
  go_wp2
  go_loop [12] (fun sv => ∃ i : Nat, i ≤ (s.C).length ∧ sv = .int .i64 i ∧ Hid (firstN (covAt s.C) i = none)) (fun sv => (s.C).length - (intOf sv).toNat)
  case atStart => exact ⟨0, Nat.zero_le _, rfl, hid_first _⟩
  case round =>
    obtain ⟨i, hile, rfl, hiinv⟩ := hrel
    by_cases hilt : i < (s.C).length
    · obtain ⟨bi, offi, ui, rfl, hbi, hcelli, hui⟩ := Hat.out.lt_ hilt
      have Hui := Lib.hid hui
      obtain ⟨A2, c2, rfl, hm2, hat2⟩ := hui.open_
      clear hat2 hui
      go_wp2
      go_loop [22] (fun sv => ∃ k : Nat, k ≤ s.C.length ∧ sv = .int .i64 k ∧ Hid (firstN (cvA s.C i) k = none)) (fun sv => s.C.length - (intOf sv).toNat)
      case atStart => exact ⟨0, Nat.zero_le _, rfl, hid_first _⟩
      case round =>
        obtain ⟨k, hkle, rfl, hkinv⟩ := hrel
        by_cases hklt : k < s.C.length
        · obtain ⟨uk, hcellk, huk⟩ := Hat.out.again hklt
          have Huk := Lib.hid huk
          obtain ⟨A3, c3, rfl, hm3, hat3⟩ := huk.open_
          clear hat3 huk
          cases hcv : cvB s.C i k with
          | true =>
            have Hk := Lib.hid (show coverC s.C = some (s.C.eraseIdx k) from firstN_hit hiinv.out (show covAt s.C i = _ from firstN_hit hkinv.out (by rw [if_pos hcv]) hklt) hilt)
            obtain ⟨h1, h2, h3, h4⟩ := cvB_iff.1 hcv
            rw [atC_eq hilt, atC_eq hklt] at h2 h3 h4
            have Hx := Lib.hid h4
            have e1 : ((i : Int) == k) = false := by simp; omega
            have e2 : s.C[i].length ≤ s.C[k].length := by omega
            clear h4 hcv
            by_cases h5 : s.C[i].length = s.C[k].length
            · have e3 : ((s.C[i].length : Int) == s.C[k].length) = true := by simp; omega
              have e4 : i ≤ k := by omega
              clear h1 h2 h3 h5
              go_wp2_with (first
                | (go_at_call 62; refine (within_any _ _ s.C[i] s.C[k] _ Hui.out Huk.out).mono ?_; rintro e w1 ⟨rfl, rfl⟩; rw [Hx.out])
                | (go_at_call 57; refine (drop_any X g vars k s _ Hw.out hklt hn).mono ?_; rintro e w2 ⟨rfl, hch, hwk⟩))
              go_ret
              refine ⟨by rw [Hk.out]; rfl, hch, ?_⟩
              rw [Hk.out]
              exact hwk
            · have e3 : ((s.C[i].length : Int) == s.C[k].length) = false := by simp; omega
              clear h1 h2 h3 h5
              go_wp2_with (first
                | (go_at_call 62; refine (within_any _ _ s.C[i] s.C[k] _ Hui.out Huk.out).mono ?_; rintro e w1 ⟨rfl, rfl⟩; rw [Hx.out])
                | (go_at_call 57; refine (drop_any X g vars k s _ Hw.out hklt hn).mono ?_; rintro e w2 ⟨rfl, hch, hwk⟩))
              go_ret
              refine ⟨by rw [Hk.out]; rfl, hch, ?_⟩
              rw [Hk.out]
              exact hwk
          | false =>
            have Hk := Lib.hid (show firstN (cvA s.C i) (k + 1) = none from firstN_go hkinv.out (by unfold cvA; rw [hcv]; rfl))
            have Hcv := Lib.hid (mt cvB_iff.2 (by rw [hcv]; simp))
            rw [atC_eq hilt, atC_eq hklt] at Hcv
            clear hcv
            by_cases h1 : i = k
            · have e1 : ((i : Int) == k) = true := by simp; omega
              clear h1 Hcv
              go_wp2
              go_round
              case rel => exact ⟨k + 1, by omega, by go_num, Hk⟩
              case measure => simp [intOf]; omega
            have e1 : ((i : Int) == k) = false := by simp; omega
            by_cases h2 : s.C[k].length < s.C[i].length
            · have e2 : s.C[k].length < s.C[i].length := h2
              clear h1 h2 Hcv
              go_wp2
              go_round
              case rel => exact ⟨k + 1, by omega, by go_num, Hk⟩
              case measure => simp [intOf]; omega
            have e2 : s.C[i].length ≤ s.C[k].length := by omega
            by_cases h3 : s.C[i].length = s.C[k].length
            · have e3 : ((s.C[i].length : Int) == s.C[k].length) = true := by simp; omega
              by_cases h4 : k < i
              · have e4 : k < i := h4
                clear h1 h2 h3 h4 Hcv
                go_wp2
                go_round
                case rel => exact ⟨k + 1, by omega, by go_num, Hk⟩
                case measure => simp [intOf]; omega
              have e4 : i ≤ k := by omega
              have Hx := Lib.hid (show withinB s.C[i] s.C[k] = false by
                cases hx : withinB s.C[i] s.C[k] with
                | false => rfl
                | true => exact absurd ⟨h1, by omega, fun e => by omega, hx⟩ Hcv.out)
              clear h1 h2 h3 h4 Hcv
              go_wp2_with (go_at_call 62; refine (within_any _ _ s.C[i] s.C[k] _ Hui.out Huk.out).mono ?_; rintro e w1 ⟨rfl, rfl⟩; rw [Hx.out])
              go_round
              case rel => exact ⟨k + 1, by omega, by go_num, Hk⟩
              case measure => simp [intOf]; omega
            · have e3 : ((s.C[i].length : Int) == s.C[k].length) = false := by simp; omega
              have Hx := Lib.hid (show withinB s.C[i] s.C[k] = false by
                cases hx : withinB s.C[i] s.C[k] with
                | false => rfl
                | true => exact absurd ⟨h1, by omega, fun e => h3 e.1, hx⟩ Hcv.out)
              clear h1 h2 h3 Hcv
              go_wp2_with (go_at_call 62; refine (within_any _ _ s.C[i] s.C[k] _ Hui.out Huk.out).mono ?_; rintro e w1 ⟨rfl, rfl⟩; rw [Hx.out])
              go_round
              case rel => exact ⟨k + 1, by omega, by go_num, Hk⟩
              case measure => simp [intOf]; omega
        · obtain rfl : k = s.C.length := by omega
          have Hk := Lib.hid (show firstN (covAt s.C) (i + 1) = none from firstN_go hiinv.out hkinv.out)
          go_wp2
          go_round
          case rel => exact ⟨i + 1, by omega, by go_num, Hk⟩
          case measure => simp [intOf]; omega
    · obtain rfl : i = (s.C).length := by omega
      have Hk := Lib.hid (show coverC s.C = none from hiinv.out)
      go_wp2
      go_ret
      refine ⟨by rw [Hk.out]; rfl, Ch.refl _ _, ?_⟩
      rw [Hk.out]
      exact Hw.out
end Go.Proofs.Ytdofiipckcfopaa
