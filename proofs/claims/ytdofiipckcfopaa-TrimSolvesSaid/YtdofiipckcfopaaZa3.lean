/- What the steps of the layer trim compute: always, empty, covered. / What the steps of the layer trim compute: fix, unit. -/
import Derived.Deep.DeepCutAuto
import Derived.Test.YtdofiipckcfopaaZa2
namespace Go.Proofs.Ytdofiipckcfopaa
open Go.RowKit

theorem firstN_idx_none {β : Type} {C : Cls} {p : List Int → Bool} {F : Nat → Option β} (hF : ∀ i, i < C.length → p (atC C i) = false → F i = none) (h : C.findIdx? p = none) : firstN F C.length = none :=
  firstN_all fun i hi => hF i hi (by rw [atC_eq hi]; exact List.findIdx?_eq_none_iff.1 h _ (List.getElem_mem hi))
theorem firstN_idx_some {β : Type} {C : Cls} {p : List Int → Bool} {F : Nat → Option β} {i : Nat} {x : β} (hF : ∀ i, i < C.length → p (atC C i) = false → F i = none) (h : C.findIdx? p = some i) (hx : F i = some x) : firstN F C.length = some x := by
  obtain ⟨hi, _, hn⟩ := List.findIdx?_eq_some_iff_getElem.1 h
  refine firstN_hit (firstN_all fun j hj => hF j (by omega) ?_) hx hi
  rw [atC_eq (by omega)]
  simpa using hn j hj
theorem idxL_cases {α : Type} (p : α → Bool) (l : List α) : (idxL p l = -1 ∧ l.findIdx? p = none) ∨ ∃ i : Nat, idxL p l = (i : Int) ∧ l.findIdx? p = some i ∧ ∃ h : i < l.length, p l[i] = true := by
  unfold idxL
  cases h : l.findIdx? p with
  | none => exact .inl ⟨rfl, rfl⟩
  | some i =>
    obtain ⟨hi, hp, _⟩ := List.findIdx?_eq_some_iff_getElem.1 h
    exact .inr ⟨i, rfl, rfl, hi, hp⟩
theorem WkAt.wk {w : World} {X : Nat → Prop} {g vars : Nat} {C : Cls} {F U : List Int} {E : Bool} {vC vF vU : Value} {cs : List Value} (h : WkAt w X g vars C F U E vC vF vU cs) : Wk w X g vars ⟨C, F, U, E⟩ := ⟨_, _, _, _, h⟩
theorem ch_refl' {D : Nat → Prop} {a b : World} (h : Below a.heap.size a b) : Ch D a b := ch_new h D

set_option maxHeartbeats 1000000 in
theorem always_any (X : Nat → Prop) (g vars : Nat) (s : TrS) (w : World) (hw : Wk w X g vars s) (hok : clsOk vars s.C) (hv : vars ≤ 1024) (hn : s.C.length ≤ 1000000) :
    Calls Try.prog 38 #[.pointer (some ⟨g, 0, none⟩)] w (CPost X g vars s (alwaysC s.C) w) := by
  obtain ⟨vC, vF, vU, cs, h⟩ := hw
  obtain ⟨_, hc1, _, _, _⟩ := h.cell
  obtain ⟨A, c, rfl, hm, hat⟩ := h.reads.open_
  have H := Lib.hid h
  have hF : ∀ i, i < s.C.length → alwaysB (atC s.C i) = false → alAt s.C i = none := fun i _ hp => by rw [alAt, hp]; rfl
  have Hf := Lib.hid (fun c (hc : c ∈ s.C) (w' : World) (u : Value) (hu : RInts w' (Lt w'.heap.size) u c) => isAlways_any u c w' hu (hok c hc) hv)
  rcases idxL_cases alwaysB s.C with ⟨hi, hx⟩ | ⟨i, hi, hx, hil, hp⟩
  · have Hk := Lib.hid (show alwaysC s.C = none from firstN_idx_none hF hx)
    have Hi := Lib.hid hi
    clear h hat hi hx hF
    go_enter Try.func38, Try.ntmps38
    go_wp2_with (go_at_call 55; refine (IndexFuncL_any _ alwaysB _ s.C _ H.out.reads callFunc_isAlw Hf.out).mono ?_; rintro e w1 ⟨rfl, hb1⟩; rw [Hi.out])
    go_ret
    refine ⟨by rw [Hk.out]; rfl, ch_refl' hb1, ?_⟩
    rw [Hk.out]
    exact (H.out.keep hb1).wk
  · have Hk := Lib.hid (show alwaysC s.C = some (s.C.eraseIdx i) from firstN_idx_some hF hx (by rw [alAt, atC_eq hil, hp]; rfl))
    have Hi := Lib.hid hi
    clear h hat hi hx hF hp
    go_enter Try.func38, Try.ntmps38
    go_wp2_with (first
      | (go_at_call 55; refine (IndexFuncL_any _ alwaysB _ s.C _ H.out.reads callFunc_isAlw Hf.out).mono ?_; rintro e w1 ⟨rfl, hb1⟩; rw [Hi.out])
      | (go_at_call 57; refine (drop_any X g vars i s _ (H.out.keep hb1).wk hil hn).mono ?_; rintro e w2 ⟨rfl, hch, hwk⟩))
    go_ret
    refine ⟨by rw [Hk.out]; rfl, (ch_refl' hb1).trans hch, ?_⟩
    rw [Hk.out]
    exact hwk

def setEm (s : TrS) : TrS := if emptyB s.C then { s with C := [[]], E := true } else s
def EPost (X : Nat → Prop) (g vars : Nat) (s : TrS) (w : World) (e : Ending) (w' : World) : Prop := e = .returned (.bool (emptyB s.C)) ∧ Ch (fun b => ¬ X b) w w' ∧ Wk w' X g vars (setEm s)
set_option maxHeartbeats 400000 in
theorem emptyFn_any (s : Value) (l : List Int) (w : World) {B : Nat} (hs : RInts w (Lt B) s l) :
    Calls Try.prog 59 #[s] w fun e w' => e = .returned (.bool (decide (l.length = 0))) ∧ Below w.heap.size w w' := by
  obtain ⟨A, c, rfl, hm, _⟩ := hs.open_
  by_cases h : l.length = 0
  · have hz : ((l.length : Int) == 0) = true := by simp [h]
    have Hh := Lib.hid h; clear h
    go_enter Try.func59, Try.ntmps59
    go_wp2
    go_ret
    exact ⟨ret_bool (by simp [Hh.out]), Below.refl _ _⟩
  · have hz : ((l.length : Int) == 0) = false := by simp [h]
    have Hh := Lib.hid h; clear h
    go_enter Try.func59, Try.ntmps59
    go_wp2
    go_ret
    exact ⟨ret_bool (by simp [Hh.out]), Below.refl _ _⟩
theorem callFunc_empty : ∀ (args : Array Value) (w : World), (callFunc 59 args).run Try.prog w = .ok (.enter 59 args) w := callFunc_run Try.func59 (by kernel_rfl) (by kernel_rfl)
set_option maxHeartbeats 1000000 in
theorem empty_any (X : Nat → Prop) (g vars : Nat) (s : TrS) (w : World) (hw : Wk w X g vars s) (hE : s.E = false) :
    Calls Try.prog 39 #[.pointer (some ⟨g, 0, none⟩)] w (EPost X g vars s w) := by
  obtain ⟨vC, vF, vU, cs, h⟩ := hw
  obtain ⟨_, hc1, _, _, _⟩ := h.cell
  obtain ⟨A, c, rfl, hm, hat⟩ := h.reads.open_
  have H := Lib.hid h
  have HE := Lib.hid hE
  have Hf := Lib.hid (fun c (_ : c ∈ s.C) (w' : World) (u : Value) (hu : RInts w' (Lt w'.heap.size) u c) => emptyFn_any u c w' hu)
  cases he : emptyB s.C with
  | false =>
    have He := Lib.hid he
    clear h hat he hE
    go_enter Try.func39, Try.ntmps39
    go_wp2_with (go_at_call 58; refine (ContainsFuncL_any _ (fun c => decide (c.length = 0)) _ s.C _ H.out.reads callFunc_empty Hf.out).mono ?_; rintro e w1 ⟨rfl, hb1⟩; rw [show (s.C.any fun c => decide (c.length = 0)) = false from He.out]; have hd1 := (H.out.keep hb1).cell.2.2.2.2; rw [HE.out] at hd1)
    go_ret
    refine ⟨by rw [He.out]; rfl, ch_refl' hb1, ?_⟩
    rw [setEm, He.out]
    exact (H.out.keep hb1).wk
  | true =>
    have He := Lib.hid he
    clear h hat he hE
    go_enter Try.func39, Try.ntmps39
    go_wp2_with (go_at_call 58; refine (ContainsFuncL_any _ (fun c => decide (c.length = 0)) _ s.C _ H.out.reads callFunc_empty Hf.out).mono ?_; rintro e w1 ⟨rfl, hb1⟩; rw [show (s.C.any fun c => decide (c.length = 0)) = true from He.out]; obtain ⟨_, hd1, _, _, hd4⟩ := (H.out.keep hb1).cell; have hf := (H.out.keep hb1).frozen; have hgl := (H.out.keep hb1).lt)
    go_ret
    refine ⟨by rw [He.out]; rfl, ?_⟩
    have h1 := (H.out.keep hb1).keep (below_alloc w1 (.cells #[.slice none 0 0] 27))
    have ho := World.ownsRow_lit (base := g + 1) (e := 27) (size := 1) w1 #[.slice none 0 0] 1 (by omega) (by unfold maxLen; omega) rfl
    have hgl1 := (H.out.keep hb1).ltC
    have h2 := (h1.setC (vC' := .slice (some ⟨w1.heap.size, 0, none⟩) 1 1) (C' := [[]]) (cs' := [.slice none 0 0]) ho (fun i hi u hu => by
        match i, hi with
        | 0, _ => cases hu; exact RSl.nil_ _ _ _)
      (fun b hb hb2 => by have := hgl1.2.1 b hb2; have : w1.heap.size = b := (by simpa [Value.ownBlock] using hb); omega) (fun b hb hb2 => by have := hgl1.2.2 b hb2; have : w1.heap.size = b := (by simpa [Value.ownBlock] using hb); omega) (fun b hb x => by have := (H.out.keep hb1).xlt b x; have : w1.heap.size = b := (by simpa [Value.ownBlock] using hb); omega)).setE true
    rw [World.setCell_alloc_past _ _ _ _ hgl, World.setCell_alloc_past _ _ _ _ (by simpa using hgl)] at h2
    refine ⟨?_, ?_⟩
    · refine (ch_refl' hb1).trans (((ch_set w1 g 1 _).imp fun i _ e => H.out.xs i (.inl e)).trans (((ch_set _ g 4 _).imp fun i _ e => H.out.xs i (.inl e)).trans (ch_refl' (below_alloc _ _))))
    · rw [setEm, He.out]
      exact h2.wk

/-! ### Clauses that are covered -/
theorem cvB_iff {C : Cls} {i k : Nat} : cvB C i k = true ↔ i ≠ k ∧ (atC C i).length ≤ (atC C k).length ∧ ¬ ((atC C i).length = (atC C k).length ∧ k < i) ∧ withinB (atC C i) (atC C k) = true := by
  unfold cvB
  simp only [Bool.not_eq_true', Bool.or_eq_false_iff, decide_eq_false_iff_not, Bool.and_eq_false_iff, Bool.not_eq_false']
  constructor
  · rintro ⟨⟨⟨a, b⟩, c⟩, d⟩
    exact ⟨a, by omega, fun e => by rcases c with c | c <;> omega, d⟩
  · rintro ⟨a, b, c, d⟩
    exact ⟨⟨⟨a, by omega⟩, by rcases Nat.lt_or_ge k i with h | h
                              · exact .inl fun e => c ⟨e, h⟩
                              · exact .inr (by omega)⟩, d⟩
def cvA (C : Cls) (i k : Nat) : Option Cls := if cvB C i k then some (C.eraseIdx k) else none
set_option maxRecDepth 100000 in
set_option maxHeartbeats 4000000 in
theorem covered_any (X : Nat → Prop) (g vars : Nat) (s : TrS) (w : World) (hw : Wk w X g vars s) (hn : s.C.length ≤ 1000000) :
    Calls Try.prog 42 #[.pointer (some ⟨g, 0, none⟩)] w (CPost X g vars s (coverC s.C) w) := by
  have Hw := Lib.hid hw
  obtain ⟨vC, vF, vU, cs, h⟩ := hw
  obtain ⟨_, hc1, _, _, _⟩ := h.cell
  obtain ⟨A, c, rfl, hm, hat⟩ := h.reads.open_
  have Hat := Lib.hid hat
  clear h hat
  go_enter Try.func42, Try.ntmps42
  go_wp2
  go_loop [12] (fun sv => ∃ i : Nat, i ≤ (s.C).length ∧ sv = .int .i64 i ∧ Hid (firstN (covAt s.C) i = none)) (fun sv => (s.C).length - (intOf sv).toNat)
  case atStart => exact ⟨0, Nat.zero_le _, rfl, hid_first _⟩
  case round =>
    obtain ⟨i, hile, rfl, hiinv⟩ := hrel
    by_cases hilt : i < (s.C).length
    · obtain ⟨bi, offi, ui, rfl, hbi, hcelli, hui⟩ := Hat.out.lt_ hilt
      have Hui := Lib.hid hui
      obtain ⟨A2, c2, rfl, hm2, hat2⟩ := hui.open_
      clear hat2 hui
      go_wp2
      go_loop [22] (fun sv => ∃ k : Nat, k ≤ s.C.length ∧ sv = .int .i64 k ∧ Hid (firstN (cvA s.C i) k = none)) (fun sv => s.C.length - (intOf sv).toNat)
      case atStart => exact ⟨0, Nat.zero_le _, rfl, hid_first _⟩
      case round =>
        obtain ⟨k, hkle, rfl, hkinv⟩ := hrel
        by_cases hklt : k < s.C.length
        · obtain ⟨uk, hcellk, huk⟩ := Hat.out.again hklt
          have Huk := Lib.hid huk
          obtain ⟨A3, c3, rfl, hm3, hat3⟩ := huk.open_
          clear hat3 huk
          cases hcv : cvB s.C i k with
          | true =>
            have Hk := Lib.hid (show coverC s.C = some (s.C.eraseIdx k) from firstN_hit hiinv.out (show covAt s.C i = _ from firstN_hit hkinv.out (by rw [if_pos hcv]) hklt) hilt)
            obtain ⟨h1, h2, h3, h4⟩ := cvB_iff.1 hcv
            rw [atC_eq hilt, atC_eq hklt] at h2 h3 h4
            have Hx := Lib.hid h4
            have e1 : ((i : Int) == k) = false := by simp; omega
            have e2 : s.C[i].length ≤ s.C[k].length := by omega
            clear h4 hcv
            by_cases h5 : s.C[i].length = s.C[k].length
            · have e3 : ((s.C[i].length : Int) == s.C[k].length) = true := by simp; omega
              have e4 : i ≤ k := by omega
              clear h1 h2 h3 h5
              go_wp2_with (first
                | (go_at_call 62; refine (within_any _ _ s.C[i] s.C[k] _ Hui.out Huk.out).mono ?_; rintro e w1 ⟨rfl, rfl⟩; rw [Hx.out])
                | (go_at_call 57; refine (drop_any X g vars k s _ Hw.out hklt hn).mono ?_; rintro e w2 ⟨rfl, hch, hwk⟩))
              go_ret
              refine ⟨by rw [Hk.out]; rfl, hch, ?_⟩
              rw [Hk.out]
              exact hwk
            · have e3 : ((s.C[i].length : Int) == s.C[k].length) = false := by simp; omega
              clear h1 h2 h3 h5
              go_wp2_with (first
                | (go_at_call 62; refine (within_any _ _ s.C[i] s.C[k] _ Hui.out Huk.out).mono ?_; rintro e w1 ⟨rfl, rfl⟩; rw [Hx.out])
                | (go_at_call 57; refine (drop_any X g vars k s _ Hw.out hklt hn).mono ?_; rintro e w2 ⟨rfl, hch, hwk⟩))
              go_ret
              refine ⟨by rw [Hk.out]; rfl, hch, ?_⟩
              rw [Hk.out]
              exact hwk
          | false =>
            have Hk := Lib.hid (show firstN (cvA s.C i) (k + 1) = none from firstN_go hkinv.out (by unfold cvA; rw [hcv]; rfl))
            have Hcv := Lib.hid (mt cvB_iff.2 (by rw [hcv]; simp))
            rw [atC_eq hilt, atC_eq hklt] at Hcv
            clear hcv
            by_cases h1 : i = k
            · have e1 : ((i : Int) == k) = true := by simp; omega
              clear h1 Hcv
              go_wp2
              go_round
              case rel => exact ⟨k + 1, by omega, by go_num, Hk⟩
              case measure => simp [intOf]; omega
            have e1 : ((i : Int) == k) = false := by simp; omega
            by_cases h2 : s.C[k].length < s.C[i].length
            · have e2 : s.C[k].length < s.C[i].length := h2
              clear h1 h2 Hcv
              go_wp2
              go_round
              case rel => exact ⟨k + 1, by omega, by go_num, Hk⟩
              case measure => simp [intOf]; omega
            have e2 : s.C[i].length ≤ s.C[k].length := by omega
            by_cases h3 : s.C[i].length = s.C[k].length
            · have e3 : ((s.C[i].length : Int) == s.C[k].length) = true := by simp; omega
              by_cases h4 : k < i
              · have e4 : k < i := h4
                clear h1 h2 h3 h4 Hcv
                go_wp2
                go_round
                case rel => exact ⟨k + 1, by omega, by go_num, Hk⟩
                case measure => simp [intOf]; omega
              have e4 : i ≤ k := by omega
              have Hx := Lib.hid (show withinB s.C[i] s.C[k] = false by
                cases hx : withinB s.C[i] s.C[k] with
                | false => rfl
                | true => exact absurd ⟨h1, by omega, fun e => by omega, hx⟩ Hcv.out)
              clear h1 h2 h3 h4 Hcv
              go_wp2_with (go_at_call 62; refine (within_any _ _ s.C[i] s.C[k] _ Hui.out Huk.out).mono ?_; rintro e w1 ⟨rfl, rfl⟩; rw [Hx.out])
              go_round
              case rel => exact ⟨k + 1, by omega, by go_num, Hk⟩
              case measure => simp [intOf]; omega
            · have e3 : ((s.C[i].length : Int) == s.C[k].length) = false := by simp; omega
              have Hx := Lib.hid (show withinB s.C[i] s.C[k] = false by
                cases hx : withinB s.C[i] s.C[k] with
                | false => rfl
                | true => exact absurd ⟨h1, by omega, fun e => h3 e.1, hx⟩ Hcv.out)
              clear h1 h2 h3 Hcv
              go_wp2_with (go_at_call 62; refine (within_any _ _ s.C[i] s.C[k] _ Hui.out Huk.out).mono ?_; rintro e w1 ⟨rfl, rfl⟩; rw [Hx.out])
              go_round
              case rel => exact ⟨k + 1, by omega, by go_num, Hk⟩
              case measure => simp [intOf]; omega
        · obtain rfl : k = s.C.length := by omega
          have Hk := Lib.hid (show firstN (covAt s.C) (i + 1) = none from firstN_go hiinv.out hkinv.out)
          go_wp2
          go_round
          case rel => exact ⟨i + 1, by omega, by go_num, Hk⟩
          case measure => simp [intOf]; omega
    · obtain rfl : i = (s.C).length := by omega
      have Hk := Lib.hid (show coverC s.C = none from hiinv.out)
      go_wp2
      go_ret
      refine ⟨by rw [Hk.out]; rfl, Ch.refl _ _, ?_⟩
      rw [Hk.out]
      exact Hw.out
end Go.Proofs.Ytdofiipckcfopaa

namespace Go.Proofs.Ytdofiipckcfopaa
open Go.RowKit

theorem ch_drew (D : Nat → Prop) (w : World) : Ch D w w.drew := ⟨rfl, rfl, rfl, Nat.le_refl _, fun _ _ _ => rfl⟩
set_option maxHeartbeats 400000 in
theorem fixFn_any (x n : Int) (b : Nat) (w : World) (hc : w.cell? ⟨b, 0, none⟩ = some (.int .i64 n)) (hn1 : -1024 ≤ n) (hn2 : n ≤ 1024) :
    Calls Try.prog 78 #[.int .i64 x, .pointer (some ⟨b, 0, none⟩)] w fun e w' => e = .returned (.bool (x == -n)) ∧ w = w' := by
  go_enter Try.func78, Try.ntmps78
  go_wp2
  go_ret
  exact ⟨rfl, rfl⟩
theorem callFunc_fix : ∀ (args : Array Value) (w : World), (callFunc 78 args).run Try.prog w = .ok (.enter 78 args) w := callFunc_run Try.func78 (by kernel_rfl) (by kernel_rfl)
theorem fixC_take_in {C : Cls} {n : Int} {k : Nat} (h : k < C.length) (hx : hasB C[k] n = true) : fixC (C.take (k + 1)) n = fixC (C.take k) n := by
  unfold fixC
  rw [List.take_succ_eq_append_getElem h, List.filter_append, List.filter_cons, List.filter_nil, hx]
  simp
theorem fixC_take_out {C : Cls} {n : Int} {k : Nat} (h : k < C.length) (hx : hasB C[k] n = false) : fixC (C.take (k + 1)) n = fixC (C.take k) n ++ [C[k].filter fun x => !(x == -n)] := by
  unfold fixC
  rw [List.take_succ_eq_append_getElem h, List.filter_append, List.filter_cons, List.filter_nil, hx, List.map_append]
  simp
theorem eRow : Elem1 Try.prog 22 27 24 := elem1_mk (z := .slice none 0 0) Try.underlying22 (by kernel_rfl) (by omega) rfl
theorem own_ne_lt {w : World} {b g n sz : Nat} {t : TypeId} {v : Value} {xs : List Value} (h : w.ownsRow b t sz v n xs) (hg : g < b) : v.ownBlock = none ∨ v.ownBlock ≠ some g := by
  cases hv : v.ownBlock with
  | none => exact .inl rfl
  | some g' => exact .inr fun e => by have := (h.lt g' hv).1; simp at e; omega
theorem fix_round {wc wr w4 w5 : World} {L : Cls} {xs : List Value} {lv v4 v5 : Value} {d : List Int} {o : Obj} (hown : wr.ownsRow wc.heap.size 27 1 lv L.length xs)
    (hcl : ∀ i (h : i < L.length) u, xs[i]? = some u → RInts wr (fun b => wc.heap.size ≤ b ∧ b < wr.heap.size ∧ some b ≠ lv.ownBlock) u L[i]) (hbel : Below wc.heap.size wc wr) (hb4 : Below wr.heap.size wr w4)
    (ho4 : w4.ownsRow wr.heap.size 3 1 v4 d.length (d.map (Value.int .i64))) (hg5 : (w4.alloc o).grownBy w5 lv.ownBlock)
    (hat5 : v5.ownBlock = lv.ownBlock ∨ v5.ownBlock = some (w4.alloc o).heap.size) :
    Below wc.heap.size wc w5 ∧ ∀ i (h : i < (L ++ [d]).length) u, (xs ++ [v4])[i]? = some u → RInts w5 (fun b => wc.heap.size ≤ b ∧ b < w5.heap.size ∧ some b ≠ v5.ownBlock) u (L ++ [d])[i] := by
  have h1 := hbel.size
  have h2 := hb4.size
  have h3 : w4.heap.size + 1 ≤ w5.heap.size := by have := hg5.size; simpa using this
  have hxl : xs.length = L.length := by simpa using hown.1
  refine ⟨((hbel.trans (hb4.mono h1)).alloc (by omega) o).grown hg5 (by simp; omega) (fun i hi => (hown.lt i hi).1), fun i hi u hu => ?_⟩
  have hch : Ch (fun b => some b = lv.ownBlock) wr w5 := ((ch_new hb4 _).trans (ch_new (below_alloc w4 o) _)).trans (ch_grown hg5)
  rcases Nat.lt_or_ge i L.length with h | h
  · rw [List.getElem_append_left h]
    rw [List.getElem?_append_left (by omega)] at hu
    refine RInts.stable _ _ _ _ _ _ (hcl i h u hu) (hch.ag fun b hb => ⟨hb.2.1, hb.2.2⟩) fun b hb => ⟨hb.1, by omega, fun e => ?_⟩
    rcases hat5 with e5 | e5
    · exact hb.2.2 (e.trans e5)
    · rw [e5] at e; simp at e; omega
  · obtain rfl : i = L.length := by simp at hi; omega
    rw [List.getElem?_append_right (by omega), hxl, Nat.sub_self] at hu
    cases hu
    rw [List.getElem_append_right (by omega)]
    simp only [Nat.sub_self, List.getElem_cons_zero]
    have hch2 : Ch (fun b => some b = lv.ownBlock) w4 w5 := (ch_new (below_alloc w4 o) _).trans (ch_grown hg5)
    have hlo := ho4.lt
    refine ints_of_own (hch2.own ho4 fun b hb e => ?_) fun b hb => ⟨by have := (hlo b hb).1; omega, by have := (hlo b hb).2; omega, fun e => ?_⟩
    · have := (hown.lt b e.symm).2; have := (hlo b hb).1; omega
    · rcases hat5 with e5 | e5
      · have := (hown.lt b (e.trans e5).symm).2; have := (hlo b hb).1; omega
      · rw [e5] at e; have := (hlo b hb).2; simp at e; omega
theorem fixC_len (C : Cls) (n : Int) : (fixC C n).length ≤ C.length := by simp only [fixC, List.length_map]; exact List.length_filter_le _ _
set_option maxRecDepth 100000 in
set_option maxHeartbeats 4000000 in
theorem fix_any (X : Nat → Prop) (g vars : Nat) (s : TrS) (n : Int) (w : World) (hw : Wk w X g vars s) (hok : clsOk vars s.C) (hn1 : -1024 ≤ n) (hn2 : n ≤ 1024) (hcl : s.C.length ≤ 1000000) (hfl : s.F.length ≤ 1000000) :
    Calls Try.prog 61 #[.pointer (some ⟨g, 0, none⟩), .int .i64 n] w (WPost X g vars (fixS s n) (.tuple #[]) w) := by
  obtain ⟨vC, vF, vU, cs, h⟩ := hw
  have H := Lib.hid h
  obtain ⟨_, hc1, hc2, _, _⟩ := h.cell
  have hfz2 := h.frozen 2
  have hgl := h.lt
  obtain ⟨AF, kF, rfl⟩ := own_shape h.oF
  obtain ⟨i0, hi0, hz0, hz1, hzz⟩ := info_parts (P := Try.prog) (e := 3) (z := .int .i64 0) (size := 1) (bytes := 8) (by kernel_rfl)
  clear h
  go_enter Try.func61, Try.ntmps61
  go_upto_region 1 with fail
  go_cut [14] (fun _ wx => ∃ vF1, WkAt wx X g vars s.C (s.F ++ [n]) s.U s.E vC vF1 vU cs ∧ Ch (fun b => ¬ X b) w wx ∧ wx.cell? ⟨w.heap.size, 0, none⟩ = some (.int .i64 n) ∧ w.heap.size < wx.heap.size)
  case first =>
    have hb1 := below_alloc w (.cells #[.int .i64 n] 3)
    have H1 := Lib.hid (H.out.keep hb1)
    have hbx : (w.alloc (.cells #[.int .i64 n] 3)).cell? ⟨w.heap.size, 0, none⟩ = some (.int .i64 n) := by simp [go_sem]
    have hd2 := (H1.out.cell).2.2.1
    have hfz := H1.out.frozen 2
    have hgl1 := H1.out.lt
    have hsz : w.heap.size < (w.alloc (.cells #[.int .i64 n] 3)).heap.size := by simp
    have Hch0 := Lib.hid (ch_refl' (D := fun b => ¬ X b) hb1)
    have hxg := H.out.xg
    have Hbx : Hid (¬ some w.heap.size = (Value.slice AF s.F.length kF).ownBlock) := fun e => by have := H.out.ltC.2.1 _ e.symm; omega
    clear hb1 hc1 hc2 hfz2
    obtain ⟨w1, hw1⟩ : ∃ w1, w1 = w.alloc (.cells #[.int .i64 n] 3) := ⟨_, rfl⟩
    rw [← hw1] at H1 hbx hd2 hfz hgl1 hsz Hch0 ⊢
    clear hw1
    have HK := Lib.hid ((H1.out.keep (below_alloc w1 (.cells #[.int .i64 n] 3))).keep (w' := (w1.alloc (.cells #[.int .i64 n] 3)).drew) ⟨rfl, rfl, rfl, Nat.le_refl _, fun _ _ => rfl⟩)
    have Hgn : Hid ((Value.slice AF s.F.length kF).ownBlock ≠ some g) := fun e => by have := H.out.gne.2.1 g e; omega
    go_region_law (
      (refine step_append_lies _ rfl (.tmp 11) (.tmp 13) 27 rfl (g + 1) 3 i0 (.int .i64 0) 1 8 Try.underlying27 hi0 hz0 hz1 hzz rfl (by omega) (.slice AF s.F.length kF) s.F.length (s.F.map (Value.int .i64)) (by simp [Act.eval]) (H1.out.oF.alloc _).drew ⟨w1.heap.size, 0, none⟩ 1 1 [.int .i64 n] (by simp [Act.eval]) rfl (by intro j u hu; match j, hu with
                                                                                                          | 0, hu => cases hu; simp [go_sem]) (by simp [Value.oneCell']) (by omega) (by unfold maxLen; omega) (by omega) (by simp; omega) _ rfl ?_
       intro gF cF w3 hown1 hg1 hat1 hlt1
       have hb3 := HK.out.midg hg1 Hgn.out
       have he2 : w3.cell? ⟨g, 2, none⟩ = some (.slice AF s.F.length kF) := (by rw [cell_of_row _ _ 2 _ _ _ hb3]; rfl)
       have hef : w3.frozen? ⟨g, 2, none⟩ = false := frozen_of_row w3 g 2 _ _ hb3
       clear hb3))
    all_goals
      go_wp2_with fail
      go_meet
      have hat : (Value.slice (some ⟨gF, 0, none⟩) (s.F.length + 1) cF).ownBlock = (Value.slice AF s.F.length kF).ownBlock ∨ (Value.slice (some ⟨gF, 0, none⟩) (s.F.length + 1) cF).ownBlock = some ((w1.alloc (.cells #[.int .i64 n] 3)).drew).heap.size := by
        rcases hat1 with h | h
        · exact .inl h.symm
        · exact .inr (by rw [h]; rfl)
      have hs3 : w1.heap.size ≤ w3.heap.size := by have := hg1.size; simp at this; omega
      refine ⟨_, HK.out.pushF hown1 hg1 hat, ?_, ?_, by simpa using (by omega : w.heap.size < w3.heap.size)⟩
      · exact Hch0.out.trans ((ch_refl' (below_alloc w1 (.cells #[.int .i64 n] 3))).trans ((ch_drew _ _).trans (((ch_grown hg1).imp fun i _ e => HK.out.xs i (.inr (.inr (.inl e)))).trans ((ch_set w3 g 2 _).imp fun i _ e => HK.out.xs i (.inl e)))))
      · rw [World.cell?_of_block (w := w3) (Below.heap_setCell w3 ⟨g, 2, none⟩ _ _ (by simpa using Nat.ne_of_gt hgl))]
        rw [World.cell?_of_block (w := (w1.alloc (.cells #[.int .i64 n] 3)).drew) (hg1.block w.heap.size (by simp; omega) Hbx.out)]
        show (w1.alloc _).cell? _ = _
        rw [World.cell?_alloc_lt _ _ _ hsz]
        exact hbx
  case rest =>
    obtain ⟨vF1, hk, hch, hbx, hsz⟩ := hcut
    obtain ⟨_, hc1, _, _, _⟩ := hk.cell
    obtain ⟨A, c, rfl, hm, hat⟩ := hk.reads.open_
    have HK := Lib.hid hk
    have Hch := Lib.hid hch
    have Hat := Lib.hid hat
    have Hbx := Lib.hid hbx
    clear hk hch hat hbx
    go_wp2
    go_loopw [22, 4] (fun sv lv wr => ∃ k : Nat, k ≤ s.C.length ∧ sv = .int .i64 k ∧ Below wc.heap.size wc wr ∧ ∃ xs, wr.ownsRow wc.heap.size 27 1 lv (fixC (s.C.take k) n).length xs ∧
        ∀ i (h : i < (fixC (s.C.take k) n).length) u, xs[i]? = some u → RInts wr (fun b => wc.heap.size ≤ b ∧ b < wr.heap.size ∧ some b ≠ lv.ownBlock) u (fixC (s.C.take k) n)[i]) (fun sv _ _ => s.C.length - (intOf sv).toNat)
    case atStart => exact ⟨0, Nat.zero_le _, rfl, Below.refl _ _, [], by simpa [fixC] using World.ownsRow_nil _ _ _ _, fun i hi => by simp [fixC] at hi⟩
    case round =>
      obtain ⟨k, hkle, rfl, hbel, xs, hown, hcl⟩ := hrel
      have Hbel := Lib.hid hbel
      have Hown := Lib.hid hown
      have Hcl := Lib.hid hcl
      have hsz2 : w.heap.size < wr.heap.size := Nat.lt_of_lt_of_le hsz hbel.size
      obtain ⟨AL, kL, rfl⟩ := own_shape hown
      clear hbel hown hcl
      by_cases hklt : k < s.C.length
      · obtain ⟨bk, offk, uk, rfl, hbk, hcellk, huk⟩ := Hat.out.lt_ hklt
        have hck := (Hbel.out.cell (p := ⟨bk, offk + k, none⟩) hbk).trans hcellk
        have hbb := (Hbel.out.cell (p := ⟨w.heap.size, 0, none⟩) hsz).trans Hbx.out
        have Huk := Lib.hid (RInts.stable.up huk Hbel.out)
        obtain ⟨A2, c2, rfl, hm2, hat2⟩ := huk.open_
        have hlen2 := (hok _ (List.getElem_mem hklt)).1
        clear hat2 huk hcellk
        cases hx : hasB s.C[k] n with
        | true =>
          have Hs' := Lib.hid (fixC_take_in hklt hx)
          have Hx := Lib.hid hx; clear hx
          go_wp2_with (go_at_call 73; refine (Contains_any _ _ s.C[k] _ Huk.out).mono ?_; rintro e w1 ⟨rfl, rfl⟩; rw [Hx.out])
          go_roundw
          case rel => exact ⟨k + 1, by omega, by go_num, Hbel.out, xs, by rw [Hs'.out]; exact Hown.out, by rw [Hs'.out]; exact Hcl.out⟩
          case measure => simp [intOf]; omega
        | false =>
          have Hs' := Lib.hid (fixC_take_out hklt hx)
          have Hx := Lib.hid hx; clear hx
          have hll := fixC_len (s.C.take k) n
          have hll2 : (s.C.take k).length ≤ k := List.length_take_le _ _
          go_wp2_with (first
            | (go_at_call 73; refine (Contains_any _ _ s.C[k] _ Huk.out).mono ?_; rintro e w1 ⟨rfl, rfl⟩; rw [Hx.out])
            | (go_at_call 27
               refine (Clone_any _ s.C[k] _ Huk.out (by omega)).mono ?_
               rintro e w3 ⟨v3, rfl, ho3, hb3⟩
               have hbb3 := (hb3.cell (p := ⟨w.heap.size, 0, none⟩) hsz2).trans hbb
               have hsz3 : w.heap.size < w3.heap.size := Nat.lt_of_lt_of_le hsz2 hb3.size
               have hap3 : v3.ownBlock = none ∨ v3.ownBlock ≠ some w.heap.size := own_ne_lt ho3 hsz2
               have Ho3 := Lib.hid ho3
               have Hb3 := Lib.hid hb3
               clear ho3 hb3)
            | (go_at_call 77
               refine (DeleteFunc_any _ w.heap.size (fun x => x == -n) _ v3 s.C[k] _ Ho3.out (by omega) hsz3 hap3 callFunc_fix (fun w' hw' x => fixFn_any x n _ w' (hw'.trans hbb3) hn1 hn2)).mono ?_
               rintro e w4 ⟨v4, rfl, ho4, hob4, hg4⟩
               obtain ⟨A4, k4, rfl⟩ := own_shape ho4
               have Ho4 := Lib.hid ho4
               have Hob4 := Lib.hid hob4
               have Hg4 := Lib.hid hg4
               have Hb4 := Lib.hid (Hb3.out.grown hg4 Hb3.out.size (fun i hi => (Ho3.out.lt i hi).1))
               clear ho4 hob4 hg4)
            | (at_builtin
               go_must (refine wpList_push rfl _ _ _ rfl eRow (v := .slice AL (fixC (s.C.take k) n).length kL) rfl (((ch_new Hb4.out (fun _ => False)).own Hown.out (fun _ _ x => x)).alloc _) w4.heap.size (.slice A4 (s.C[k].filter fun x => !(x == -n)).length k4) rfl (by simp [go_sem]) rfl (by omega) (by have := Hbel.out.size; have := Hb4.out.size; simp; omega) ?_)
               intro v5 w5 ho5 hg5 hat5))
          go_roundw
          case rel =>
            have hr := fix_round Hown.out Hcl.out Hbel.out Hb4.out Ho4.out hg5 hat5
            refine ⟨k + 1, by omega, by go_num, hr.1, xs ++ [.slice A4 (s.C[k].filter fun x => !(x == -n)).length k4], ?_, ?_⟩
            · rw [Hs'.out, List.length_append]; exact ho5
            · rw [Hs'.out]; exact hr.2
          case measure => simp [intOf]; omega
      · obtain rfl : k = s.C.length := by omega
        rw [List.take_length] at Hown Hcl
        have hkk := HK.out.keep Hbel.out
        have hd1 := hkk.cell.2.1
        have hdf := hkk.frozen 1
        go_wp2
        go_end0
        have hx := hkk.setC (vC' := .slice AL (fixC s.C n).length kL) (C' := fixC s.C n) (cs' := xs) (Hown.out.mono (by have := HK.out.lt; omega)) (fun i hi u hu => RInts.stable.sub (Hcl.out i hi u hu) fun b hb => ⟨by have := HK.out.lt; omega, hb.2.1, hb.2.2, fun e => by have := HK.out.ltC.2.1 b e.symm; omega, fun e => by have := HK.out.ltC.2.2 b e.symm; omega⟩)
          (fun b h1 h2 => by have := (Hown.out.lt b h1).1; have := HK.out.ltC.2.1 b h2; omega) (fun b h1 h2 => by have := (Hown.out.lt b h1).1; have := HK.out.ltC.2.2 b h2; omega) (fun b h1 x => by have := (Hown.out.lt b h1).1; have := HK.out.xlt b x; omega)
        exact ⟨rfl, Hch.out.trans ((ch_refl' Hbel.out).trans ((ch_set wr g 1 _).imp fun i _ e => hkk.xs i (.inl e))), _, _, _, _, hx⟩
end Go.Proofs.Ytdofiipckcfopaa
