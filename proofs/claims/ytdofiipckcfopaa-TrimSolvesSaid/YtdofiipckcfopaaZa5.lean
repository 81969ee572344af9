/- What all steps of the layer trim make of a question. / What Trim makes of a question. / Which questions are light, and the document's example of the layer trim. / .. -/
import Derived.Deep.LoopGhost
import Derived.Deep.RegionHeld3
import Derived.Laws.CopyOwn
import Derived.ChangeSame
import Derived.Test.YtdofiipckcfopaaZa
import Derived.Test.YtdofiipckcfopaaZa1
import Derived.Test.YtdofiipckcfopaaZa4
import Derived.Test.YtdofiipckcfopaaZk
namespace Go.Proofs.Ytdofiipckcfopaa
open Go.RowKit

def RunPost (X : Nat → Prop) (g vars : Nat) (s : TrS) (w : World) (e : Ending) (w' : World) : Prop := e = .returned (.tuple #[]) ∧ ∃ t, RunTo vars s t ∧ Ch (fun b => ¬ X b) w w' ∧ Wk w' X g vars t
theorem Wk.protect {w : World} {X : Nat → Prop} {g vars : Nat} {s : TrS} (h : Wk w X g vars s) (o : Obj) : Wk (w.alloc o) (fun b => X b ∨ b = w.heap.size) g vars s := by
  obtain ⟨vC, vF, vU, cs, h⟩ := h
  have hk := h.keep (below_alloc w o)
  have hl := h.ltC
  refine ⟨vC, vF, vU, cs, hk.hg, hk.oC, hk.oF, hk.oU, hk.cl, hk.aCF, hk.aCU, hk.aFU, ?_, ?_, ?_, ?_, ?_, fun b hb => .inl (hk.xlow b hb)⟩
  · rintro (x | x)
    · exact hk.xg x
    · have := h.lt; omega
  · rintro b hb (x | x)
    · exact hk.xC b hb x
    · have := hl.1 b hb; omega
  · rintro b hb (x | x)
    · exact hk.xF b hb x
    · have := hl.2.1 b hb; omega
  · rintro b hb (x | x)
    · exact hk.xU b hb x
    · have := hl.2.2 b hb; omega
  · rintro b (x | x)
    · exact hk.xlt b x
    · subst x; simp
theorem Wk.unprotect {w : World} {X X' : Nat → Prop} {g vars : Nat} {s : TrS} (h : Wk w X' g vars s) (hx : ∀ b, X b → X' b) (hl : ∀ b, b < g → X b) : Wk w X g vars s := by
  obtain ⟨vC, vF, vU, cs, h⟩ := h
  exact ⟨vC, vF, vU, cs, h.hg, h.oC, h.oF, h.oU, h.cl, h.aCF, h.aCU, h.aFU, fun x => h.xg (hx _ x), fun b hb x => h.xC b hb (hx _ x), fun b hb x => h.xF b hb (hx _ x), fun b hb x => h.xU b hb (hx _ x), fun b hb => h.xlt b (hx _ hb), hl⟩
/-- The first j steps weren't there. -/
structure Tried (vars : Nat) (s : TrS) (j : Nat) : Prop where
  h1 : 1 ≤ j → twiceC s.C = none
  h2 : 2 ≤ j → alwaysC s.C = none
  h3 : 3 ≤ j → emptyB s.C = false
  h4 : 4 ≤ j → unitC s.C = none
  h5 : 5 ≤ j → pureC vars s.C = none
  h6 : 6 ≤ j → coverC s.C = none
theorem Tried.none_ {vars : Nat} {s : TrS} (h : Tried vars s 6) : stepS vars s = none := by
  unfold stepS
  rw [h.h1 (by omega), h.h2 (by omega), h.h3 (by omega), h.h4 (by omega), h.h5 (by omega), h.h6 (by omega)]
  rfl
theorem Tried.next0 {vars : Nat} {s : TrS} (k : twiceC s.C = none) : Tried vars s 1 := ⟨fun _ => k, fun h => by omega, fun h => by omega, fun h => by omega, fun h => by omega, fun h => by omega⟩
theorem Tried.next1 {vars : Nat} {s : TrS} (h : Tried vars s 1) (k : alwaysC s.C = none) : Tried vars s 2 := ⟨fun _ => h.h1 (by omega), fun _ => k, fun h => by omega, fun h => by omega, fun h => by omega, fun h => by omega⟩
theorem Tried.next2 {vars : Nat} {s : TrS} (h : Tried vars s 2) (k : emptyB s.C = false) : Tried vars s 3 := ⟨fun _ => h.h1 (by omega), fun _ => h.h2 (by omega), fun _ => k, fun h => by omega, fun h => by omega, fun h => by omega⟩
theorem Tried.next3 {vars : Nat} {s : TrS} (h : Tried vars s 3) (k : unitC s.C = none) : Tried vars s 4 := ⟨fun _ => h.h1 (by omega), fun _ => h.h2 (by omega), fun _ => h.h3 (by omega), fun _ => k, fun h => by omega, fun h => by omega⟩
theorem Tried.next4 {vars : Nat} {s : TrS} (h : Tried vars s 4) (k : pureC vars s.C = none) : Tried vars s 5 := ⟨fun _ => h.h1 (by omega), fun _ => h.h2 (by omega), fun _ => h.h3 (by omega), fun _ => h.h4 (by omega), fun _ => k, fun h => by omega⟩
theorem Tried.next5 {vars : Nat} {s : TrS} (h : Tried vars s 5) (k : coverC s.C = none) : Tried vars s 6 := ⟨fun _ => h.h1 (by omega), fun _ => h.h2 (by omega), fun _ => h.h3 (by omega), fun _ => h.h4 (by omega), fun _ => h.h5 (by omega), fun _ => k⟩
theorem Tried.did0 {vars : Nat} {s : TrS} {C : Cls} (k : twiceC s.C = some C) : stepS vars s = some (setC s (some C)) := by unfold stepS; rw [k]; rfl
theorem Tried.did1 {vars : Nat} {s : TrS} (h : Tried vars s 1) {C : Cls} (k : alwaysC s.C = some C) : stepS vars s = some (setC s (some C)) := by unfold stepS; rw [h.h1 (by omega), k]; rfl
theorem Tried.did2 {vars : Nat} {s : TrS} (h : Tried vars s 2) (k : emptyB s.C = true) : stepS vars s = some (setEm s) := by unfold stepS setEm; rw [h.h1 (by omega), h.h2 (by omega), k]; rfl
theorem Tried.did3 {vars : Nat} {s : TrS} (h : Tried vars s 3) {n : Int} (k : unitC s.C = some n) : stepS vars s = some (setUn s (some n)) := by unfold stepS; rw [h.h1 (by omega), h.h2 (by omega), h.h3 (by omega), k]; rfl
theorem Tried.did4 {vars : Nat} {s : TrS} (h : Tried vars s 4) {n : Int} (k : pureC vars s.C = some n) : stepS vars s = some (setPu s (some n)) := by unfold stepS; rw [h.h1 (by omega), h.h2 (by omega), h.h3 (by omega), h.h4 (by omega), k]; rfl
theorem Tried.did5 {vars : Nat} {s : TrS} (h : Tried vars s 5) {C : Cls} (k : coverC s.C = some C) : stepS vars s = some (setC s (some C)) := by unfold stepS; rw [h.h1 (by omega), h.h2 (by omega), h.h3 (by omega), h.h4 (by omega), h.h5 (by omega), k]; rfl

def stepVal (g : Nat) (j : Nat) : Value := .func (.func ([37, 38, 39, 40, 41, 42].getD j 0)) #[.pointer (some ⟨g, 0, none⟩)] #[]
theorem callFunc_steps : (∀ (args : Array Value) (w : World), (callFunc 37 args).run Try.prog w = .ok (.enter 37 args) w) ∧ (∀ (args : Array Value) (w : World), (callFunc 38 args).run Try.prog w = .ok (.enter 38 args) w) ∧
    (∀ (args : Array Value) (w : World), (callFunc 39 args).run Try.prog w = .ok (.enter 39 args) w) ∧ (∀ (args : Array Value) (w : World), (callFunc 40 args).run Try.prog w = .ok (.enter 40 args) w) ∧
    (∀ (args : Array Value) (w : World), (callFunc 41 args).run Try.prog w = .ok (.enter 41 args) w) ∧ (∀ (args : Array Value) (w : World), (callFunc 42 args).run Try.prog w = .ok (.enter 42 args) w) :=
  ⟨callFunc_run Try.func37 (by kernel_rfl) (by kernel_rfl), callFunc_run Try.func38 (by kernel_rfl) (by kernel_rfl), callFunc_run Try.func39 (by kernel_rfl) (by kernel_rfl), callFunc_run Try.func40 (by kernel_rfl) (by kernel_rfl), callFunc_run Try.func41 (by kernel_rfl) (by kernel_rfl), callFunc_run Try.func42 (by kernel_rfl) (by kernel_rfl)⟩
set_option maxRecDepth 100000 in
set_option maxHeartbeats 4000000 in
theorem run_any (X : Nat → Prop) (g vars n0 : Nat) (s : TrS) (w : World) (hw : Wk w X g vars s) (hok : TrOk vars n0 s) (hv : vars ≤ 1024) (hn0 : n0 ≤ 100000) (hE : s.E = false) :
    Calls Try.prog 28 #[.pointer (some ⟨g, 0, none⟩)] w (RunPost X g vars s w) := by
  obtain ⟨cf0, cf1, cf2, cf3, cf4, cf5⟩ := callFunc_steps
  have Hw := Lib.hid hw
  have Hok := Lib.hid hok
  have HE := Lib.hid hE
  clear hw hok hE
  go_enter Try.func28, Try.ntmps28
  go_wp2
  have hWk := Hw.out.protect (.cells #[stepVal g 0, stepVal g 1, stepVal g 2, stepVal g 3, stepVal g 4, stepVal g 5] 26)
  have hlow : ∀ b, b < g → X b := by obtain ⟨_, _, _, _, h⟩ := Hw.out; exact h.xlow
  have Hlow := Lib.hid hlow
  have hrow : ∀ j, (w.alloc (.cells #[stepVal g 0, stepVal g 1, stepVal g 2, stepVal g 3, stepVal g 4, stepVal g 5] 26)).cell? ⟨w.heap.size, j, none⟩ = #[stepVal g 0, stepVal g 1, stepVal g 2, stepVal g 3, stepVal g 4, stepVal g 5][j]? := fun j => by simp
  have hsz : w.heap.size < (w.alloc (.cells #[stepVal g 0, stepVal g 1, stepVal g 2, stepVal g 3, stepVal g 4, stepVal g 5] 26)).heap.size := by simp
  have Hch0 := Lib.hid (ch_refl' (D := fun b => ¬ X b) (below_alloc w (.cells #[stepVal g 0, stepVal g 1, stepVal g 2, stepVal g 3, stepVal g 4, stepVal g 5] 26)))
  change Code.wp _ _ _ _ (w.alloc (.cells #[stepVal g 0, stepVal g 1, stepVal g 2, stepVal g 3, stepVal g 4, stepVal g 5] 26))
  obtain ⟨X', hX'⟩ : ∃ X' : Nat → Prop, X' = fun b => X b ∨ b = w.heap.size := ⟨_, rfl⟩
  rw [← hX'] at hWk
  have HX1 : Hid (∀ b, X b → X' b) := fun b hb => by rw [hX']; exact .inl hb
  have HX2 : Hid (X' w.heap.size) := by rw [hX']; exact .inr rfl
  clear hX' hlow
  generalize w.alloc (.cells #[stepVal g 0, stepVal g 1, stepVal g 2, stepVal g 3, stepVal g 4, stepVal g 5] 26) = w0 at *
  have HWk := Lib.hid hWk
  have Hrow := Lib.hid hrow
  clear hWk hrow
  go_loopg [3] (2 * sizeS s + 1) (fun gk ag wr => ∃ (t : TrS) (b : Bool), ag = .bool b ∧ Hid (Steps vars s t ∧ (b = false → stepS vars t = none) ∧ gk = 2 * sizeS t + (if b then 1 else 0)) ∧ Hid (Wk wr X' g vars t ∧ Ch (fun x => ¬ X' x) w0 wr))
  case atStart => exact ⟨s, true, rfl, ⟨.refl _, fun h => by simp at h, rfl⟩, HWk.out, Ch.refl _ _⟩
  case round =>
    obtain ⟨t, b, rfl, hinv, hw2⟩ := hrel
    have HfinW : Hid (Stop vars t → RunPost X g vars s w (.returned (.tuple #[])) wr) := fun hs =>
      ⟨rfl, t, ⟨hinv.out.1, hs⟩, Hch0.out.trans (hw2.out.2.imp fun i _ h x => h (HX1.out i x)), hw2.out.1.unprotect HX1.out Hlow.out⟩
    have hce : wr.cell? ⟨g, 4, none⟩ = some (.bool t.E) := by obtain ⟨_, _, _, _, h⟩ := hw2.out.1; exact h.cell.2.2.2.2
    cases b with
    | false =>
      have Hst := Lib.hid (show Stop vars t from .inr (hinv.out.2.1 rfl))
      go_wp2
      go_end0
      exact HfinW.out Hst.out
    | true =>
      cases hE : t.E with
      | true =>
        have Hst := Lib.hid (show Stop vars t from .inl hE)
        rw [hE] at hce
        clear hE
        go_wp2
        go_end0
        exact HfinW.out Hst.out
      | false =>
        rw [hE] at hce
        have HEt := Lib.hid hE
        have Hgk := Lib.hid hinv.out.2.2
        have Hst := Lib.hid hinv.out.1
        have Hokt := Lib.hid (hinv.out.1.ok Hok.out)
        have hcl : t.C.length ≤ 1000000 := by have := Hokt.out.2.1; omega
        have hfl : t.F.length ≤ 1000000 := by have := Hokt.out.2.1; omega
        have hul : t.U.length ≤ 1000000 := by have := Hokt.out.2.2; omega
        have Hw2 := Lib.hid hw2.out
        clear hE hinv hw2 HfinW
        go_wp2
        go_loopw [29, 3] (fun sv ag wi => ∃ j : Nat, j ≤ 6 ∧ sv = .int .i64 j ∧ ag = .bool false ∧ Hid (Tried vars t j) ∧ Hid (Wk wi X' g vars t ∧ Ch (fun x => ¬ X' x) w0 wi)) (fun sv _ _ => 6 - (intOf sv).toNat)
        case atStart => exact ⟨0, Nat.zero_le _, rfl, rfl, ⟨fun h => by omega, fun h => by omega, fun h => by omega, fun h => by omega, fun h => by omega, fun h => by omega⟩, Hw2.out⟩
        case round =>
          obtain ⟨wi, rfl⟩ : ∃ w0 : World, w0 = wr := ⟨_, rfl⟩
          obtain ⟨j, hj, rfl, rfl, htr, hwi⟩ := hrel
          have Hwi := Lib.hid hwi.out.1
          have Hchi := Lib.hid hwi.out.2
          clear hwi
          have hcell : wi.cell? ⟨w.heap.size, j, none⟩ = #[stepVal g 0, stepVal g 1, stepVal g 2, stepVal g 3, stepVal g 4, stepVal g 5][j]? := (World.cell?_of_block (w := w0) (Hchi.out.block w.heap.size hsz fun h => h HX2.out)).trans (Hrow.out j)
          match j, hj with
          | 0, _ =>
            replace hcell : wi.cell? ⟨w.heap.size, 0, none⟩ = some (.func (.func 37) #[.pointer (some ⟨g, 0, none⟩)] #[]) := hcell
            cases hc : twiceC t.C with
            | none =>
              have Hc := Lib.hid hc
              clear hc
              go_wp2_with fail
              refine (twice_any X' g vars t _ Hwi.out Hokt.out.1).mono ?_
              rintro e w2 ⟨he, hch2, hwk2⟩
              rw [Hc.out] at he hwk2
              obtain rfl : e = .returned (.bool false) := he
              have Hn := Lib.hid (show Hid (Tried vars t 1) from Tried.next0 Hc.out)
              have Hp := Lib.hid (show Wk w2 X' g vars t ∧ Ch (fun x => ¬ X' x) w0 w2 from ⟨hwk2, Hchi.out.trans hch2⟩)
              clear hch2 hwk2
              go_wp2
              go_roundw
              case rel => exact ⟨1, by omega, by go_num, rfl, Hn.out, Hp.out⟩
              case measure => simp [intOf]
            | some C =>
              have Hc := Lib.hid hc
              clear hc
              have Hdid := Lib.hid (Tried.did0 Hc.out : stepS vars t = some _)
              go_wp2_with fail
              refine (twice_any X' g vars t _ Hwi.out Hokt.out.1).mono ?_
              rintro e w2 ⟨he, hch2, hwk2⟩
              rw [Hc.out] at he hwk2
              obtain rfl : e = .returned (.bool true) := he
              have Hp := Lib.hid (show Wk w2 X' g vars (setC t (some C)) ∧ Ch (fun x => ¬ X' x) w0 w2 from ⟨hwk2, Hchi.out.trans hch2⟩)
              have Hless := Lib.hid ((way_of Hdid.out).less HEt.out)
              clear hch2 hwk2
              go_wp2
              go_roundg (2 * sizeS (setC t (some C)) + 1)
              case rel => exact ⟨_, true, rfl, ⟨Hst.out.snoc HEt.out Hdid.out, fun h => by simp at h, rfl⟩, Hp.out⟩
              case measure => have h1 := Hgk.out; have h2 := Hless.out; simp at h1; omega
          | 1, _ =>
            replace hcell : wi.cell? ⟨w.heap.size, 1, none⟩ = some (.func (.func 38) #[.pointer (some ⟨g, 0, none⟩)] #[]) := hcell
            cases hc : alwaysC t.C with
            | none =>
              have Hc := Lib.hid hc
              clear hc
              go_wp2_with fail
              refine (always_any X' g vars t _ Hwi.out Hokt.out.1 hv hcl).mono ?_
              rintro e w2 ⟨he, hch2, hwk2⟩
              rw [Hc.out] at he hwk2
              obtain rfl : e = .returned (.bool false) := he
              have Hn := Lib.hid (show Hid (Tried vars t 2) from htr.out.next1 Hc.out)
              have Hp := Lib.hid (show Wk w2 X' g vars t ∧ Ch (fun x => ¬ X' x) w0 w2 from ⟨hwk2, Hchi.out.trans hch2⟩)
              clear hch2 hwk2
              go_wp2
              go_roundw
              case rel => exact ⟨2, by omega, by go_num, rfl, Hn.out, Hp.out⟩
              case measure => simp [intOf]
            | some C =>
              have Hc := Lib.hid hc
              clear hc
              have Hdid := Lib.hid (htr.out.did1 Hc.out : stepS vars t = some _)
              go_wp2_with fail
              refine (always_any X' g vars t _ Hwi.out Hokt.out.1 hv hcl).mono ?_
              rintro e w2 ⟨he, hch2, hwk2⟩
              rw [Hc.out] at he hwk2
              obtain rfl : e = .returned (.bool true) := he
              have Hp := Lib.hid (show Wk w2 X' g vars (setC t (some C)) ∧ Ch (fun x => ¬ X' x) w0 w2 from ⟨hwk2, Hchi.out.trans hch2⟩)
              have Hless := Lib.hid ((way_of Hdid.out).less HEt.out)
              clear hch2 hwk2
              go_wp2
              go_roundg (2 * sizeS (setC t (some C)) + 1)
              case rel => exact ⟨_, true, rfl, ⟨Hst.out.snoc HEt.out Hdid.out, fun h => by simp at h, rfl⟩, Hp.out⟩
              case measure => have h1 := Hgk.out; have h2 := Hless.out; simp at h1; omega
          | 2, _ =>
            replace hcell : wi.cell? ⟨w.heap.size, 2, none⟩ = some (.func (.func 39) #[.pointer (some ⟨g, 0, none⟩)] #[]) := hcell
            cases hc : emptyB t.C with
            | false =>
              have Hc := Lib.hid hc
              clear hc
              go_wp2_with fail
              refine (empty_any X' g vars t _ Hwi.out HEt.out).mono ?_
              rintro e w2 ⟨he, hch2, hwk2⟩
              rw [Hc.out] at he
              rw [setEm, Hc.out] at hwk2
              obtain rfl : e = .returned (.bool false) := he
              have Hn := Lib.hid (show Hid (Tried vars t 3) from htr.out.next2 Hc.out)
              have Hp := Lib.hid (show Wk w2 X' g vars t ∧ Ch (fun x => ¬ X' x) w0 w2 from ⟨hwk2, Hchi.out.trans hch2⟩)
              clear hch2 hwk2
              go_wp2
              go_roundw
              case rel => exact ⟨3, by omega, by go_num, rfl, Hn.out, Hp.out⟩
              case measure => simp [intOf]
            | true =>
              have Hc := Lib.hid hc
              clear hc
              have Hdid := Lib.hid (htr.out.did2 Hc.out : stepS vars t = some _)
              go_wp2_with fail
              refine (empty_any X' g vars t _ Hwi.out HEt.out).mono ?_
              rintro e w2 ⟨he, hch2, hwk2⟩
              rw [Hc.out] at he
              obtain rfl : e = .returned (.bool true) := he
              have Hp := Lib.hid (show Wk w2 X' g vars (setEm t) ∧ Ch (fun x => ¬ X' x) w0 w2 from ⟨hwk2, Hchi.out.trans hch2⟩)
              have Hless := Lib.hid ((way_of Hdid.out).less HEt.out)
              clear hch2 hwk2
              go_wp2
              go_roundg (2 * sizeS (setEm t) + 1)
              case rel => exact ⟨_, true, rfl, ⟨Hst.out.snoc HEt.out Hdid.out, fun h => by simp at h, rfl⟩, Hp.out⟩
              case measure => have h1 := Hgk.out; have h2 := Hless.out; simp at h1; omega
          | 3, _ =>
            replace hcell : wi.cell? ⟨w.heap.size, 3, none⟩ = some (.func (.func 40) #[.pointer (some ⟨g, 0, none⟩)] #[]) := hcell
            cases hc : unitC t.C with
            | none =>
              have Hc := Lib.hid hc
              clear hc
              go_wp2_with fail
              refine (unit_any X' g vars t _ Hwi.out Hokt.out.1 hv hcl hfl hul).mono ?_
              rintro e w2 ⟨he, hch2, hwk2⟩
              rw [Hc.out] at he hwk2
              obtain rfl : e = .returned (.bool false) := he
              have Hn := Lib.hid (show Hid (Tried vars t 4) from htr.out.next3 Hc.out)
              have Hp := Lib.hid (show Wk w2 X' g vars t ∧ Ch (fun x => ¬ X' x) w0 w2 from ⟨hwk2, Hchi.out.trans hch2⟩)
              clear hch2 hwk2
              go_wp2
              go_roundw
              case rel => exact ⟨4, by omega, by go_num, rfl, Hn.out, Hp.out⟩
              case measure => simp [intOf]
            | some C =>
              have Hc := Lib.hid hc
              clear hc
              have Hdid := Lib.hid (htr.out.did3 Hc.out : stepS vars t = some _)
              go_wp2_with fail
              refine (unit_any X' g vars t _ Hwi.out Hokt.out.1 hv hcl hfl hul).mono ?_
              rintro e w2 ⟨he, hch2, hwk2⟩
              rw [Hc.out] at he hwk2
              obtain rfl : e = .returned (.bool true) := he
              have Hp := Lib.hid (show Wk w2 X' g vars (setUn t (some C)) ∧ Ch (fun x => ¬ X' x) w0 w2 from ⟨hwk2, Hchi.out.trans hch2⟩)
              have Hless := Lib.hid ((way_of Hdid.out).less HEt.out)
              clear hch2 hwk2
              go_wp2
              go_roundg (2 * sizeS (setUn t (some C)) + 1)
              case rel => exact ⟨_, true, rfl, ⟨Hst.out.snoc HEt.out Hdid.out, fun h => by simp at h, rfl⟩, Hp.out⟩
              case measure => have h1 := Hgk.out; have h2 := Hless.out; simp at h1; omega
          | 4, _ =>
            replace hcell : wi.cell? ⟨w.heap.size, 4, none⟩ = some (.func (.func 41) #[.pointer (some ⟨g, 0, none⟩)] #[]) := hcell
            cases hc : pureC vars t.C with
            | none =>
              have Hc := Lib.hid hc
              clear hc
              go_wp2_with fail
              refine (pure_any X' g vars t _ Hwi.out Hokt.out.1 hv hcl hfl).mono ?_
              rintro e w2 ⟨he, hch2, hwk2⟩
              rw [Hc.out] at he hwk2
              obtain rfl : e = .returned (.bool false) := he
              have Hn := Lib.hid (show Hid (Tried vars t 5) from htr.out.next4 Hc.out)
              have Hp := Lib.hid (show Wk w2 X' g vars t ∧ Ch (fun x => ¬ X' x) w0 w2 from ⟨hwk2, Hchi.out.trans hch2⟩)
              clear hch2 hwk2
              go_wp2
              go_roundw
              case rel => exact ⟨5, by omega, by go_num, rfl, Hn.out, Hp.out⟩
              case measure => simp [intOf]
            | some C =>
              have Hc := Lib.hid hc
              clear hc
              have Hdid := Lib.hid (htr.out.did4 Hc.out : stepS vars t = some _)
              go_wp2_with fail
              refine (pure_any X' g vars t _ Hwi.out Hokt.out.1 hv hcl hfl).mono ?_
              rintro e w2 ⟨he, hch2, hwk2⟩
              rw [Hc.out] at he hwk2
              obtain rfl : e = .returned (.bool true) := he
              have Hp := Lib.hid (show Wk w2 X' g vars (setPu t (some C)) ∧ Ch (fun x => ¬ X' x) w0 w2 from ⟨hwk2, Hchi.out.trans hch2⟩)
              have Hless := Lib.hid ((way_of Hdid.out).less HEt.out)
              clear hch2 hwk2
              go_wp2
              go_roundg (2 * sizeS (setPu t (some C)) + 1)
              case rel => exact ⟨_, true, rfl, ⟨Hst.out.snoc HEt.out Hdid.out, fun h => by simp at h, rfl⟩, Hp.out⟩
              case measure => have h1 := Hgk.out; have h2 := Hless.out; simp at h1; omega
          | 5, _ =>
            replace hcell : wi.cell? ⟨w.heap.size, 5, none⟩ = some (.func (.func 42) #[.pointer (some ⟨g, 0, none⟩)] #[]) := hcell
            cases hc : coverC t.C with
            | none =>
              have Hc := Lib.hid hc
              clear hc
              go_wp2_with fail
              refine (covered_any X' g vars t _ Hwi.out hcl).mono ?_
              rintro e w2 ⟨he, hch2, hwk2⟩
              rw [Hc.out] at he hwk2
              obtain rfl : e = .returned (.bool false) := he
              have Hn := Lib.hid (show Hid (Tried vars t 6) from htr.out.next5 Hc.out)
              have Hp := Lib.hid (show Wk w2 X' g vars t ∧ Ch (fun x => ¬ X' x) w0 w2 from ⟨hwk2, Hchi.out.trans hch2⟩)
              clear hch2 hwk2
              go_wp2
              go_roundw
              case rel => exact ⟨6, by omega, by go_num, rfl, Hn.out, Hp.out⟩
              case measure => simp [intOf]
            | some C =>
              have Hc := Lib.hid hc
              clear hc
              have Hdid := Lib.hid (htr.out.did5 Hc.out : stepS vars t = some _)
              go_wp2_with fail
              refine (covered_any X' g vars t _ Hwi.out hcl).mono ?_
              rintro e w2 ⟨he, hch2, hwk2⟩
              rw [Hc.out] at he hwk2
              obtain rfl : e = .returned (.bool true) := he
              have Hp := Lib.hid (show Wk w2 X' g vars (setC t (some C)) ∧ Ch (fun x => ¬ X' x) w0 w2 from ⟨hwk2, Hchi.out.trans hch2⟩)
              have Hless := Lib.hid ((way_of Hdid.out).less HEt.out)
              clear hch2 hwk2
              go_wp2
              go_roundg (2 * sizeS (setC t (some C)) + 1)
              case rel => exact ⟨_, true, rfl, ⟨Hst.out.snoc HEt.out Hdid.out, fun h => by simp at h, rfl⟩, Hp.out⟩
              case measure => have h1 := Hgk.out; have h2 := Hless.out; simp at h1; omega
          | 6, _ =>
            clear hcell
            have Hn := Lib.hid htr.out.none_
            have Hp := Lib.hid (show Wk wi X' g vars t ∧ Ch (fun x => ¬ X' x) w0 wi from ⟨Hwi.out, Hchi.out⟩)
            go_wp2
            go_roundg (2 * sizeS t)
            case rel => exact ⟨t, false, rfl, ⟨Hst.out, fun _ => Hn.out, by simp⟩, Hp.out⟩
            case measure => have h1 := Hgk.out; simp at h1; omega
          | n + 7, hj => exact absurd hj (by omega)
end Go.Proofs.Ytdofiipckcfopaa

namespace Go.Proofs.Ytdofiipckcfopaa
open Go.RowKit

theorem WkAt.pushC {w w' : World} {X : Nat → Prop} {g vars : Nat} {C : Cls} {F U : List Int} {E : Bool} {vC vF vU v1 u : Value} {cs : List Value} {c : List Int} (h : WkAt w X g vars C F U E vC vF vU cs)
    (o1 : w'.ownsRow (g + 1) 27 1 v1 (C.length + 1) (cs ++ [u])) (hg1 : w.grownBy w' vC.ownBlock) (hat : v1.ownBlock = vC.ownBlock ∨ v1.ownBlock = some w.heap.size) (hr : RInts w (inW w g vC vF vU) u c) :
    WkAt (w'.setCell ⟨g, 1, none⟩ v1) X g vars (C ++ [c]) F U E v1 vF vU (cs ++ [u]) := by
  have hne : ∀ {t sz v n xs}, w'.ownsRow (g + 1) t sz v n xs → ∀ i, v.ownBlock = some i → ¬ i = g := fun ho i hi e => by have := (ho.lt i hi).1; omega
  have hch := (ch_grown hg1).imp (D' := FP g vC vF vU) fun i _ e => .inr (.inl e)
  have hch2 := hch.trans ((ch_set w' g 1 v1).imp (D' := FP g vC vF vU) fun i _ e => .inl e)
  have hn := newOr_app hat (Nat.le_refl _)
  have hmid := h.midg hg1 fun e => by have := h.gne.1 g e; omega
  have h1 := (ch_grown hg1).own h.oF (fun i hi e => h.aCF i e.symm hi)
  have h2 := (ch_grown hg1).own h.oU (fun i hi e => h.aCU i e.symm hi)
  refine h.to hch2 (by rw [heap_setCell_same w' g 1 _ _ v1 hmid]; rfl) ?_ ((ch_set w' g 1 v1).own h1 (hne h1)) ((ch_set w' g 1 v1).own h2 (hne h2)) (fun i hi x hx => ?_) hn (.refl _ _) (.refl _ _) (h.aCF.new hn h.ltC.2.1) (h.aCU.new hn h.ltC.2.2) h.aFU
  · rw [List.length_append]; exact (ch_set w' g 1 v1).own o1 (hne o1)
  · have hcl := h.csl
    rcases Nat.lt_or_ge i C.length with hlt | hge
    · rw [List.getElem_append_left hlt]
      rw [List.getElem?_append_left (by omega)] at hx
      exact inner_up hch2 (fun _ _ x => x) hn (.refl _ _) (.refl _ _) (h.cl i hlt x hx)
    · obtain rfl : i = C.length := by simp at hi; omega
      rw [List.getElem?_append_right (by omega), hcl, Nat.sub_self] at hx
      cases hx
      rw [List.getElem_append_right (by omega)]
      simp only [Nat.sub_self, List.getElem_cons_zero]
      exact inner_up hch2 (fun _ _ x => x) hn (.refl _ _) (.refl _ _) hr
theorem RSl.shape {α : Type} {R : Rd α} {w : World} {S : Nat → Prop} {v : Value} {l : List α} (h : RSl R w S v l) : ∃ A c, v = .slice A l.length c := by
  obtain ⟨A, c, hv, _⟩ := h; exact ⟨A, c, hv⟩
def startS (C : Cls) : TrS := ⟨C, [], [], false⟩
def StartPost (v : Nat) (C : Cls) (w : World) (e : Ending) (w' : World) : Prop :=
  ∃ g t, e = .returned (.pointer (some ⟨g, 0, none⟩)) ∧ w.heap.size ≤ g ∧ RunTo v (startS C) t ∧ Wk w' (Lt g) g v t ∧ Below w.heap.size w w'
theorem startOk {v : Nat} {C : Cls} (h : clsOk v C) : TrOk v C.length (startS C) := ⟨h, by simp [startS], by simp [startS]⟩
set_option maxRecDepth 100000 in
set_option maxHeartbeats 4000000 in
theorem start_any (v : Nat) (s : Value) (C : Cls) (w : World) (hs : RIntss w (Lt w.heap.size) s C) (hok : clsOk v C) (hv : v ≤ 1024) (hn : C.length ≤ 16384) :
    Calls Try.prog 20 #[.agg #[.int .i64 (v : Int), s]] w (StartPost v C w) := by
  have Hs := Lib.hid hs
  obtain ⟨A, c, rfl, hm, hat⟩ := hs.open_
  clear hat hs
  go_enter Try.func20, Try.ntmps20
  go_wp2
  obtain ⟨w0, hw0⟩ : ∃ w0, w0 = (w.alloc (.cells #[.int .i64 (v : Int), .slice A C.length c] 24)).alloc (.cells #[.int .i64 (v : Int), .slice none 0 0, .slice none 0 0, .slice none 0 0, .bool false] 59) := ⟨_, rfl⟩
  have hb0 : Below w.heap.size w w0 := by rw [hw0]; exact ((below_alloc _ _).alloc (by simp) _)
  have hz0 : w0.heap.size = w.heap.size + 1 + 1 := by rw [hw0]; simp
  have hk0 : WkAt w0 (Lt (w.heap.size + 1)) (w.heap.size + 1) v [] [] [] false (.slice none 0 0) (.slice none 0 0) (.slice none 0 0) [] := by
    exact ⟨(by rw [hw0]; exact heap_new (by simp)), World.ownsRow_nil _ _ _ _, World.ownsRow_nil _ _ _ _, World.ownsRow_nil _ _ _ _, (fun i hi => absurd hi (by simp)), (fun b hb => (by cases hb)), (fun b hb => (by cases hb)), (fun b hb => (by cases hb)), (fun h : _ < _ => by omega), (fun b hb => (by cases hb)), (fun b hb => (by cases hb)), (fun b hb => (by cases hb)), (fun b hb => (by have : b < w.heap.size + 1 := hb; omega)), (fun b hb => hb)⟩
  have Hb0 := Lib.hid hb0
  rw [← hw0]
  clear hw0 hb0
  have hz0' : w.heap.size + 1 < w0.heap.size := by omega
  clear hz0
  obtain ⟨i0, hi0, hz0, hz1, hzz⟩ := info_parts (P := Try.prog) (e := 27) (z := .slice none 0 0) (size := 1) (bytes := 24) (by kernel_rfl)
  go_loopw [13] (fun sv wr => ∃ k : Nat, k ≤ C.length ∧ sv = .int .i64 k ∧ Hid (Ch (fun b => ¬ Lt (w.heap.size + 1) b) w0 wr ∧ Wk wr (Lt (w.heap.size + 1)) (w.heap.size + 1) v (startS (C.take k)))) (fun sv _ => C.length - (intOf sv).toNat)
  case atStart => exact ⟨0, Nat.zero_le _, rfl, Ch.refl _ _, ⟨_, _, _, _, hk0⟩⟩
  case round =>
    obtain ⟨k, hkle, rfl, hkinv⟩ := hrel
    obtain ⟨hch, vC, vF, vU, cs, hk⟩ := hkinv.out
    have HK := Lib.hid hk
    have Hch := Lib.hid hch
    have Hbw := Lib.hid (Hb0.out.trans (hch.below (B := w.heap.size) (fun i hi => by have : ¬ i < w.heap.size + 1 := hi; omega) (by omega)))
    clear hch hk hkinv
    by_cases hklt : k < C.length
    · obtain ⟨A', c', e', _, hat⟩ := (RIntss.stable.up Hs.out Hbw.out).open_
      simp only [Value.slice.injEq] at e'
      obtain ⟨rfl, _, rfl⟩ := e'
      obtain ⟨bk, offk, uk, rfl, hbk, hcellk, huk⟩ := hat.lt_ hklt
      have Huk := Lib.hid huk
      obtain ⟨A2, c2, rfl, hm2, hat2⟩ := huk.open_
      have hlen2 := (hok _ (List.getElem_mem hklt)).1
      obtain ⟨_, hc1, _, _, _⟩ := HK.out.cell
      have hgl := HK.out.lt
      have hne := HK.out.gne.1
      obtain ⟨AC, kC, hvC⟩ := own_shape HK.out.oC
      have hlk : (startS (C.take k)).C.length = k := by simp [startS]; omega
      rw [hlk] at hvC
      subst hvC
      have Ho := Lib.hid (show wr.ownsRow (w.heap.size + 1 + 1) 27 1 (.slice AC k kC) k cs by have := HK.out.oC; rw [hlk] at this; exact this)
      have Hne := Lib.hid hne
      have Hlk := Lib.hid hlk
      clear hat huk hat2 hne hlk
      go_wp2_with fail
      go_region_law (first
          | (go_simp
             go_at_call 27
             refine (Clone_any _ C[k] _ (RInts.stable.up Huk.out (below_drewN (Below.refl _ _) 1)) (by omega)).mono ?_
             rintro e w3 ⟨v3, rfl, ho3, hb3⟩
             obtain ⟨A3, k3, rfl⟩ := own_shape ho3
             have Ho3 := Lib.hid ho3
             have HK3 := Lib.hid ((HK.out.keep (below_drewN (Below.refl _ _) 1)).keep hb3)
             have hd1 : w3.cell? ⟨w.heap.size + 1, 1, none⟩ = some (.slice AC k kC) := HK3.out.cell.2.1
             have hgl3 : w.heap.size + 1 < w3.heap.size := HK3.out.lt
             have Hb3 := Lib.hid ((below_drewN (Below.refl wr.heap.size wr) 1).trans hb3)
             clear ho3 hb3)
          | (have HK4 := Lib.hid (HK3.out.keep (below_alloc w3 (.cells #[.slice A3 C[k].length k3] 27)))
             have ho4 := HK4.out.oC
             rw [Hlk.out] at ho4
             refine step_append_lies _ (by rfl) _ _ _ (by rfl) (w.heap.size + 1 + 1) 27 i0 (.slice none 0 0) 1 24 Try.underlying22 hi0 hz0 hz1 hzz rfl (by omega) (.slice AC k kC) k cs (by rfl) ho4 ⟨w3.heap.size, 0, none⟩ 1 1 [.slice A3 C[k].length k3] (by rfl) (by rfl) (World.news_of_block (cs := #[.slice A3 C[k].length k3]) (t := 27) (fr := (0, 0)) (heap_alloc_new w3 _)) (by simp [Value.oneCell']) (by omega) (by unfold maxLen; omega) (by omega) (by have := HK3.out.lt; simp; omega) _ rfl ?_
             intro gF cF w5 hown1 hg1 hat1 hlt1
             have hb5 := HK4.out.midg hg1 (fun e => by have := HK4.out.gne.1 _ e; omega)
             have hd5 : w5.cell? ⟨w.heap.size + 1, 1, none⟩ = some (.slice AC k kC) := (by rw [cell_of_row _ _ 1 _ _ _ hb5]; rfl)
             have hf5 : w5.frozen? ⟨w.heap.size + 1, 1, none⟩ = false := frozen_of_row w5 _ 1 _ _ hb5
             clear hb5))
      all_goals
        have hat : (Value.slice (some ⟨gF, 0, none⟩) (k + 1) cF).ownBlock = (Value.slice AC k kC).ownBlock ∨ (Value.slice (some ⟨gF, 0, none⟩) (k + 1) cF).ownBlock = some (w3.alloc (.cells #[.slice A3 C[k].length k3] 27)).heap.size := by
          rcases hat1 with h | h
          · exact .inl h.symm
          · exact .inr (by rw [h]; rfl)
        have hrd : RInts (w3.alloc (.cells #[.slice A3 C[k].length k3] 27)) (inW (w3.alloc (.cells #[.slice A3 C[k].length k3] 27)) (w.heap.size + 1) (.slice AC k kC) vF vU) (.slice A3 C[k].length k3) C[k] := by
          refine RInts.stable _ _ _ _ _ _ (ints_of_own (S := fun b => wr.heap.size ≤ b ∧ b < w3.heap.size) Ho3.out fun b hb => ⟨(Ho3.out.lt b hb).1, (Ho3.out.lt b hb).2⟩) (fun b hb => Below.heap_alloc _ _ _ hb.2) fun b hb => ⟨by omega, by simp; omega, fun e => ?_, fun e => ?_, fun e => ?_⟩
          · have := HK.out.ltC.1 b e.symm; omega
          · have := HK.out.ltC.2.1 b e.symm; omega
          · have := HK.out.ltC.2.2 b e.symm; omega
        have hp := HK4.out.pushC (v1 := .slice (some ⟨gF, 0, none⟩) (k + 1) cF) (by rw [Hlk.out]; exact hown1) hg1 hat hrd
        have hts : (startS (C.take k)).C ++ [C[k]] = (startS (C.take (k + 1))).C := by simp [startS]
        rw [hts] at hp
        have Hp := Lib.hid hp
        have Hchn := Lib.hid (Hch.out.trans ((ch_refl' Hb3.out).trans ((ch_refl' (below_alloc w3 (.cells #[.slice A3 C[k].length k3] 27))).trans (((ch_grown hg1).imp fun i _ e => HK4.out.xs i (.inr (.inl e))).trans ((ch_set w5 (w.heap.size + 1) 1 (.slice (some ⟨gF, 0, none⟩) (k + 1) cF)).imp fun i _ e => HK4.out.xs i (.inl e))))))
        clear hp hts hrd hat
        go_wp2
        go_roundw
        case rel => exact ⟨k + 1, by omega, by go_num, Hchn.out, _, _, _, _, Hp.out⟩
        case measure => simp [intOf]; omega
    · obtain rfl : k = C.length := by omega
      rw [List.take_length] at HK
      go_wp2_with (go_at_call 28; refine (run_any (Lt (w.heap.size + 1)) (w.heap.size + 1) v C.length (startS C) _ HK.out.wk (startOk hok) hv (by omega) rfl).mono ?_; rintro e w5 ⟨rfl, t, hrun, hch5, hwk5⟩)
      go_ret
      exact ⟨_, t, rfl, by omega, hrun, hwk5, Hbw.out.trans (hch5.below (fun i hi => by have : ¬ i < w.heap.size + 1 := hi; omega) (Hbw.out.size))⟩

/-- What lies behind block g. -/
abbrev Over (g : Nat) (w : World) : Nat → Prop := fun b => g < b ∧ b < w.heap.size
theorem WkAt.readsC {w : World} {X : Nat → Prop} {g vars : Nat} {C : Cls} {F U : List Int} {E : Bool} {vC vF vU : Value} {cs : List Value} (h : WkAt w X g vars C F U E vC vF vU cs) : RIntss w (Over g w) vC C :=
  reads_of_own h.oC rfl (fun b hb => ⟨h.gne.1 b hb, (h.oC.lt b hb).2⟩) fun i hi u hu => RInts.stable.sub (h.cl i hi u hu) fun b hb => ⟨hb.1, hb.2.1⟩
theorem WkAt.readsF {w : World} {X : Nat → Prop} {g vars : Nat} {C : Cls} {F U : List Int} {E : Bool} {vC vF vU : Value} {cs : List Value} (h : WkAt w X g vars C F U E vC vF vU cs) : RInts w (Over g w) vF F :=
  ints_of_own h.oF fun b hb => ⟨h.gne.2.1 b hb, (h.oF.lt b hb).2⟩
theorem WkAt.readsU {w : World} {X : Nat → Prop} {g vars : Nat} {C : Cls} {F U : List Int} {E : Bool} {vC vF vU : Value} {cs : List Value} (h : WkAt w X g vars C F U E vC vF vU cs) : RInts w (Over g w) vU U :=
  ints_of_own h.oU fun b hb => ⟨h.gne.2.2 b hb, (h.oU.lt b hb).2⟩
theorem Stable.over {α : Type} {R : Rd α} (hs : Stable R) {w w' : World} {g : Nat} {v : Value} {x : α} (h : R w (Over g w) v x) (hb : Below w.heap.size w w') : R w' (Over g w') v x :=
  hs _ _ _ _ _ _ h (fun b hb' => hb.block b hb'.2) fun b hb' => ⟨hb'.1, Nat.lt_of_lt_of_le hb'.2 hb.size⟩
theorem Stable.wide {α : Type} {R : Rd α} (hs : Stable R) {w : World} {g : Nat} {v : Value} {x : α} (h : R w (Over g w) v x) : R w (Lt w.heap.size) v x := hs.sub h fun _ hb => hb.2
/-- A store at a block that lies before. -/
theorem Stable.overSet {α : Type} {R : Rd α} (hs : Stable R) {w : World} {g b o : Nat} {u v : Value} {x : α} (h : R w (Over g w) v x) (hb : b ≤ g) : R (w.setCell ⟨b, o, none⟩ u) (Over g (w.setCell ⟨b, o, none⟩ u)) v x :=
  hs _ _ _ _ _ _ h (fun i hi => Below.heap_setCell _ _ _ _ (by have := hi.1; simp; omega)) fun i hi => ⟨hi.1, by simpa using hi.2⟩
def cells3 (v : Nat) (vC vF : Value) : Value := .agg #[.int .i64 (v : Int), vC, vF]
set_option maxRecDepth 100000 in
set_option maxHeartbeats 1000000 in
theorem trimmed_any (g v : Nat) (t : TrS) (w : World) (hw : Wk w (Lt g) g v t) :
    Calls Try.prog 21 #[.pointer (some ⟨g, 0, none⟩)] w fun e w' => ∃ vC vF, e = .returned (cells3 v vC vF) ∧ RIntss w' (Over g w') vC t.C ∧ RInts w' (Over g w') vF t.F ∧ Below w.heap.size w w' := by
  obtain ⟨vC, vF, vU, cs, h⟩ := hw
  obtain ⟨hc0, hc1, hc2, hc3, hc4⟩ := h.cell
  obtain ⟨A, c, rfl, hm, hat⟩ := h.reads.open_
  obtain ⟨AF, kF, rfl⟩ := own_shape h.oF
  have hgl := h.lt
  have Hr := Lib.hid h.readsC
  have Hf := Lib.hid h.readsF
  clear h hat
  go_enter Try.func21, Try.ntmps21
  go_wp2_with fail
  have hgn : ¬ g = w.heap.size := by omega
  go_region_held3 (fun w' => w'.cell? ⟨g, 0, none⟩ = some (.int .i64 (v : Int)) ∧ w'.cell? ⟨g, 1, none⟩ = some (.slice A t.C.length c) ∧ w'.cell? ⟨g, 2, none⟩ = some (.slice AF t.F.length kF)) (first | go_keep) (fail)
  go_wp2
  have hb : Below w.heap.size w ((w.alloc (.cells #[.int .i64 (v : Int), .slice A t.C.length c, .slice AF t.F.length kF] 29)).drew) := below_drewN (below_alloc _ _) 1
  refine bodyPost_ret (v := cells3 v (.slice A t.C.length c) (.slice AF t.F.length kF)) (by simp [cells3, results, Try.results21, go_sem]) rfl ⟨_, _, rfl, RIntss.stable.over Hr.out hb, RInts.stable.over Hf.out hb, hb⟩
/-- What Trim answers. -/
def TrimPost (v : Int) (C : Cls) (w : World) (e : Ending) (w' : World) : Prop :=
  (satMayN v C ≠ 0 ∧ e = .returned (.tuple #[cells3 0 (.slice none 0 0) (.slice none 0 0), .int .i64 (satMayN v C : Nat)]) ∧ Below w.heap.size w w') ∨
  (satMayN v C = 0 ∧ ∃ (n : Nat) (t : TrS) (vC vF : Value), v = n ∧ n ≤ 1024 ∧ clsOk n C ∧ RunTo n (startS C) t ∧ e = .returned (.tuple #[cells3 n vC vF, .int .i64 0]) ∧ RIntss w' (Lt w'.heap.size) vC t.C ∧ RInts w' (Lt w'.heap.size) vF t.F ∧ Below w.heap.size w w')
theorem satMay_ok {v : Int} {C : Cls} (h : satMayN v C = 0) : 0 ≤ v ∧ v ≤ 1024 ∧ C.length ≤ 16384 ∧ clsOk v.toNat C := by
  by_cases h1 : 1024 < v ∨ 16384 < C.length
  · simp [satMayN, h1] at h
  cases h2 : C.any (fun c => decide (2048 < c.length)) with
  | true => simp [satMayN, h1, h2] at h
  | false =>
  by_cases h3 : v < 0
  · simp [satMayN, h1, h2, h3] at h
  cases h4 : C.any (fun c => c.any (badLit v)) with
  | true => simp [satMayN, h1, h2, h3, h4] at h
  | false =>
  refine ⟨by omega, by omega, by omega, fun c hc => ⟨?_, fun x hx => ?_⟩⟩
  · have := List.any_eq_false.1 h2 c hc
    simpa using this
  · have h5 : c.any (badLit v) = false := by simpa using List.any_eq_false.1 h4 c hc
    have := List.any_eq_false.1 h5 x hx
    simp [badLit] at this
    unfold litOk
    omega
set_option maxRecDepth 100000 in
set_option maxHeartbeats 1000000 in
theorem Trim_any (v : Int) (s : Value) (C : Cls) (w : World) (hs : RIntss w (Lt w.heap.size) s C) :
    Calls Try.prog 10 #[.agg #[.int .i64 v, s]] w (TrimPost v C w) := by
  have Hs := Lib.hid hs
  obtain ⟨A, c, rfl⟩ : ∃ A c, s = .slice A C.length c := by obtain ⟨A, c, h, _⟩ := hs; exact ⟨A, c, h⟩
  clear hs
  have Hm := Lib.hid (satMay_any v (.slice A C.length c) C)
  by_cases hz : satMayN v C = 0
  · obtain ⟨h0, h1, h2, h3⟩ := satMay_ok hz
    obtain ⟨n, rfl⟩ := Int.eq_ofNat_of_zero_le h0
    rw [Int.toNat_natCast] at h3
    have Hz := Lib.hid hz
    have hn : n ≤ 1024 := by omega
    clear hz h0 h1
    go_enter Try.func10, Try.ntmps10
    go_wp2_with (first
      | (go_at_call 19
         refine (Hm.out _ (RIntss.stable.up Hs.out ((below_alloc _ _).alloc (by simp) _))).mono ?_
         rintro e w1 ⟨rfl, hb1⟩
         rw [Hz.out]
         obtain ⟨hc, hf⟩ := bcell hb1
         have hz1 : w.heap.size + 1 < w1.heap.size := (by have := hb1.size; simp at this; omega)
         have Hb1 := Lib.hid (((below_alloc w _).alloc (by simp) _).trans (hb1.mono (by simp; omega)))
         clear hb1)
      | (go_at_call 20
         refine (start_any n _ C _ (RIntss.stable.up Hs.out Hb1.out) h3 hn h2).mono ?_
         rintro e w2 ⟨g, t, rfl, hg, hrun, hwk, hb2⟩
         obtain ⟨hc2, hf2⟩ := bcell hb2
         have hz2 : w.heap.size + 1 < w2.heap.size := Nat.lt_of_lt_of_le hz1 hb2.size
         have Hrun := Lib.hid hrun
         have Hwk := Lib.hid hwk
         have Hb2 := Lib.hid (Hb1.out.trans (hb2.mono Hb1.out.size))
         clear hrun hwk hb2)
      | (go_at_call 21
         refine (trimmed_any g n t _ Hwk.out).mono ?_
         rintro e w3 ⟨vC, vF, rfl, hrC, hrF, hb3⟩
         obtain ⟨hc3, hf3⟩ := bcell hb3
         have hz3 : w.heap.size + 1 < w3.heap.size := Nat.lt_of_lt_of_le hz2 hb3.size
         obtain ⟨AC, kC, rfl⟩ := hrC.shape
         obtain ⟨AF, kF, rfl⟩ := hrF.shape
         have HrC := Lib.hid hrC
         have HrF := Lib.hid hrF
         have Hb3 := Lib.hid (Hb2.out.trans (hb3.mono Hb2.out.size))
         clear hrC hrF hb3
         unfold cells3))
    refine bodyPost_ret (v := .tuple #[cells3 n (.slice AC t.C.length kC) (.slice AF t.F.length kF), .int .i64 0]) (by simp [cells3, results, Try.results10, go_sem, hc, hc2, hc3, hz1, hz2]) rfl (.inr ⟨Hz.out, n, t, _, _, rfl, hn, h3, Hrun.out, rfl, ?_, ?_, ?_⟩)
    · exact RIntss.stable.wide (RIntss.stable.overSet (RIntss.stable.overSet (RIntss.stable.overSet HrC.out (by omega)) (by omega)) (by omega))
    · exact RInts.stable.wide (RInts.stable.overSet (RInts.stable.overSet (RInts.stable.overSet HrF.out (by omega)) (by omega)) (by omega))
    · exact ((Hb3.out.setCell (by simp) _).setCell (by simp) _).setCell (by simp) _
  · have Hz := Lib.hid (show ((satMayN v C : Nat) : Int) ≠ 0 by omega)
    have hne : (((satMayN v C : Nat) : Int) != 0) = true := by simp; omega
    have Hz0 := Lib.hid hz
    clear hz
    go_enter Try.func10, Try.ntmps10
    go_wp2_with (first
      | (go_at_call 19
         refine (Hm.out _ (RIntss.stable.up Hs.out ((below_alloc _ _).alloc (by simp) _))).mono ?_
         rintro e w1 ⟨rfl, hb1⟩
         obtain ⟨hc, hf⟩ := bcell hb1
         have hz1 : w.heap.size + 1 < w1.heap.size := (by have := hb1.size; simp at this; omega)
         have Hb1 := Lib.hid (((below_alloc w _).alloc (by simp) _).trans (hb1.mono (by simp; omega)))
         clear hb1))
    refine bodyPost_ret (v := .tuple #[cells3 0 (.slice none 0 0) (.slice none 0 0), .int .i64 (satMayN v C : Nat)]) (by simp [cells3, results, Try.results10, go_sem, hc, hz1]) rfl (.inl ⟨Hz0.out, rfl, ?_⟩)
    exact ((Hb1.out.setCell (by simp) _).setCell (by simp) _).setCell (by simp) _
end Go.Proofs.Ytdofiipckcfopaa

namespace Go.Proofs.Ytdofiipckcfopaa
open Go.RowKit

def lightQ (v : Int) (C : Cls) : Bool := decide (v ≤ 30) && decide (C.length ≤ 60) && C.all fun c => decide (c.length ≤ 20)
set_option maxHeartbeats 1000000 in
theorem light_any (v : Int) (s : Value) (C : Cls) (w : World) (hs : RIntss w (Lt w.heap.size) s C) :
    Calls Try.prog 8 #[.agg #[.int .i64 v, s]] w fun e w' => e = .returned (.bool (lightQ v C)) ∧ Below w.heap.size w w' := by
  obtain ⟨A, c, rfl, hm, hat⟩ := hs.open_
  have hb : Below w.heap.size w (w.alloc (.cells #[.int .i64 v, .slice A C.length c] 24)) := (Below.refl _ _).alloc (Nat.le_refl _) _
  have Hb := Lib.hid hb; clear hb
  have Hat := Lib.hid hat; clear hat
  by_cases h1 : 30 < v
  · have Hd := Lib.hid (show lightQ v C = false by simp [lightQ]; omega)
    go_enter Try.func8, Try.ntmps8
    go_wp2
    go_ret
    exact ⟨ret_bool Hd.out.symm, Hb.out⟩
  by_cases h2 : 60 < C.length
  · have Hd := Lib.hid (show lightQ v C = false by simp [lightQ]; omega)
    go_enter Try.func8, Try.ntmps8
    go_wp2
    go_ret
    exact ⟨ret_bool Hd.out.symm, Hb.out⟩
  go_enter Try.func8, Try.ntmps8
  go_wp2
  go_loop [17] (fun sv => ∃ k : Nat, k ≤ (C).length ∧ sv = .int .i64 k ∧ Hid ((C.take k).all (fun c => decide (c.length ≤ 20)) = true)) (fun sv => (C).length - (intOf sv).toNat)
  case atStart => exact ⟨0, Nat.zero_le _, rfl, rfl⟩
  case round =>
    obtain ⟨k, hkle, rfl, hkinv⟩ := hrel
    by_cases hklt : k < (C).length
    · obtain ⟨bk, offk, uk, rfl, hbk, hcellk, huk⟩ := Hat.out.lt_ hklt
      obtain ⟨A2, c2, rfl, hm2, hat2⟩ := huk.open_
      clear hat2 huk
      by_cases h3 : 20 < C[k].length
      · have Hd := Lib.hid (show lightQ v C = false by unfold lightQ; rw [all_at (h := hklt) (by simp; omega)]; simp)
        go_wp2
        go_ret
        exact ⟨ret_bool Hd.out.symm, Hb.out⟩
      · go_wp2
        go_round
        case rel => exact ⟨k + 1, by omega, by go_num, (by rw [Hid, all_take_succ _ _ _ hklt, hkinv.out]; simp; omega)⟩
        case measure => simp [intOf]; omega
    · obtain rfl : k = (C).length := by omega
      rw [List.take_length] at hkinv
      have Hd := Lib.hid (show lightQ v C = true by unfold lightQ; rw [hkinv.out]; simp; omega)
      go_wp2
      go_ret
      exact ⟨ret_bool Hd.out.symm, Hb.out⟩

def exC : Cls := [[1, 2], [-1], [2, 3], [2, 3, 4]]
theorem ex_run {t : TrS} (h : RunTo 4 (startS exC) t) : t = ⟨[], [-1, 2], [-1, 2], false⟩ := by
  refine h.unique ⟨?_, .inr (by decide +kernel)⟩
  refine .head (a := ⟨[[2], [2, 3], [2, 3, 4]], [-1], [-1], false⟩) rfl (by kernel_rfl) ?_
  refine .head (a := ⟨[], [-1, 2], [-1, 2], false⟩) rfl (by kernel_rfl) ?_
  exact .refl _
theorem ex_may : satMayN 4 exC = 0 := by decide +kernel
theorem ex_reads {W : World} {b0 b1 b2 b3 b4 : Nat} {f0 f1 f2 f3 f4 : Nat × Nat} {t0 t1 t2 t3 t4 : TypeId} (h0 : W.heap[b0]? = some (.cells #[.int .i64 1, .int .i64 2] t0 f0)) (h1 : W.heap[b1]? = some (.cells #[.int .i64 (-1)] t1 f1)) (h2 : W.heap[b2]? = some (.cells #[.int .i64 2, .int .i64 3] t2 f2))
    (h3 : W.heap[b3]? = some (.cells #[.int .i64 2, .int .i64 3, .int .i64 4] t3 f3)) (h4 : W.heap[b4]? = some (.cells #[.slice (some ⟨b0, 0, none⟩) 2 2, .slice (some ⟨b1, 0, none⟩) 1 1, .slice (some ⟨b2, 0, none⟩) 2 2, .slice (some ⟨b3, 0, none⟩) 3 3] t4 f4)) :
    RIntss W (Lt W.heap.size) (.slice (some ⟨b4, 0, none⟩) 4 4) exC := by
  have lt : ∀ {b : Nat} {o : Obj}, W.heap[b]? = some o → b < W.heap.size := fun h => (Array.getElem?_eq_some_iff.1 h).1
  refine rows_block (vs := [.slice (some ⟨b0, 0, none⟩) 2 2, .slice (some ⟨b1, 0, none⟩) 1 1, .slice (some ⟨b2, 0, none⟩) 2 2, .slice (some ⟨b3, 0, none⟩) 3 3]) h4 (lt h4) rfl (by omega) rfl fun i hi u hu => ?_
  match i, hi with
  | 0, _ => cases hu; exact ints_block (l := [1, 2]) h0 (lt h0) rfl (by omega)
  | 1, _ => cases hu; exact ints_block (l := [-1]) h1 (lt h1) rfl (by omega)
  | 2, _ => cases hu; exact ints_block (l := [2, 3]) h2 (lt h2) rfl (by omega)
  | 3, _ => cases hu; exact ints_block (l := [2, 3, 4]) h3 (lt h3) rfl (by omega)
set_option maxRecDepth 100000 in
set_option maxHeartbeats 2000000 in
theorem lives_any (w : World) : Calls Try.prog 9 #[] w fun e w' => e = .returned (.bool true) ∧ Below w.heap.size w w' := by
  go_enter Try.func9, Try.ntmps9
  go_wp2_with fail
  have hr := ex_reads (W := ((((w.alloc (.cells #[.int .i64 1, .int .i64 2] 3)).alloc (.cells #[.int .i64 (-1)] 3)).alloc (.cells #[.int .i64 2, .int .i64 3] 3)).alloc (.cells #[.int .i64 2, .int .i64 3, .int .i64 4] 3)).alloc (.cells #[.slice (some ⟨w.heap.size, 0, none⟩) 2 2, .slice (some ⟨w.heap.size + 1, 0, none⟩) 1 1, .slice (some ⟨w.heap.size + 1 + 1, 0, none⟩) 2 2, .slice (some ⟨w.heap.size + 1 + 1 + 1, 0, none⟩) 3 3] 27))
    (b0 := w.heap.size) (b1 := w.heap.size + 1) (b2 := w.heap.size + 1 + 1) (b3 := w.heap.size + 1 + 1 + 1) (b4 := w.heap.size + 1 + 1 + 1 + 1)
    (heap_at_alloc (heap_at_alloc (heap_at_alloc (heap_at_alloc (heap_new rfl))))) (heap_at_alloc (heap_at_alloc (heap_at_alloc (heap_new (by simp))))) (heap_at_alloc (heap_at_alloc (heap_new (by simp)))) (heap_at_alloc (heap_new (by simp))) (heap_new (by simp))
  have Hr := Lib.hid hr; clear hr
  have Hbw := Lib.hid (((((below_alloc w (.cells #[.int .i64 1, .int .i64 2] 3)).alloc (by simp) (.cells #[.int .i64 (-1)] 3)).alloc (by simp; omega) (.cells #[.int .i64 2, .int .i64 3] 3)).alloc (by simp; omega) (.cells #[.int .i64 2, .int .i64 3, .int .i64 4] 3)).alloc (by simp; omega) (.cells #[.slice (some ⟨w.heap.size, 0, none⟩) 2 2, .slice (some ⟨w.heap.size + 1, 0, none⟩) 1 1, .slice (some ⟨w.heap.size + 1 + 1, 0, none⟩) 2 2, .slice (some ⟨w.heap.size + 1 + 1 + 1, 0, none⟩) 3 3] 27))
  refine (Trim_any 4 _ exC _ Hr.out).mono ?_
  rintro e w1 (⟨hz, _⟩ | ⟨_, n, t, vC, vF, hn, _, _, hrun, rfl, hrC, hrF, hb1⟩)
  · exact absurd ex_may hz
  obtain rfl : n = 4 := by omega
  obtain rfl := ex_run hrun
  obtain ⟨AC, cC, rfl, _, hatC⟩ := hrC.open_
  obtain ⟨AF, cF, rfl, _, hatF⟩ := hrF.open_
  obtain ⟨bF, offF, rfl, hbF, hcF⟩ := hatF (by simp)
  obtain ⟨u0, hu0, e0⟩ := hcF 0 (by simp)
  obtain ⟨u1, hu1, e1⟩ := hcF 1 (by simp)
  obtain rfl := e0
  obtain rfl := e1
  simp at hu0 hu1
  have Hb1 := Lib.hid (Hbw.out.trans (hb1.mono Hbw.out.size))
  clear hatC hatF hcF hb1 hrC hrF hrun hn Hr
  unfold cells3
  go_wp2
  go_ret
  exact ⟨rfl, Hb1.out.alloc Hb1.out.size _⟩
end Go.Proofs.Ytdofiipckcfopaa

namespace Go.Proofs.Ytdofiipckcfopaa
open Go.RowKit

/-- Truths of so many variables. -/
def padT (n : Nat) (ts : List Bool) : List Bool := ts.take n ++ List.replicate (n - (ts.take n).length) false
def setT (o : List Bool) (n : Int) : List Bool := if 1 ≤ n.natAbs ∧ n.natAbs ≤ o.length then o.set (n.natAbs - 1) (decide (0 < n)) else o
def growT (n : Nat) (F : List Int) (ts : List Bool) : List Bool := F.foldl setT (padT n ts)
theorem padT_length (n : Nat) (ts : List Bool) : (padT n ts).length = n := by simp [padT]; omega
theorem setT_length (o : List Bool) (n : Int) : (setT o n).length = o.length := by unfold setT; split <;> simp
theorem foldT_length (F : List Int) : ∀ o, (F.foldl setT o).length = o.length := by
  induction F with
  | nil => intro o; rfl
  | cons n F ih => intro o; rw [List.foldl_cons, ih, setT_length]
theorem growT_length (n : Nat) (F : List Int) (ts : List Bool) : (growT n F ts).length = n := by rw [growT, foldT_length, padT_length]
theorem foldT_succ {F : List Int} {k : Nat} (h : k < F.length) (o : List Bool) : (F.take (k + 1)).foldl setT o = setT ((F.take k).foldl setT o) F[k] := by
  rw [List.take_succ_eq_append_getElem h, List.foldl_append]; rfl
abbrev Over0 (w w' : World) : Nat → Prop := fun b => w.heap.size ≤ b ∧ b < w'.heap.size
theorem rat_cells' {α : Type} {R : Rd α} {f : α → Value} (hR : ∀ w S u x, R w S u x → u = f x) {w : World} {S : Nat → Prop} {A : Option Addr} {l : List α} (h : RAt R w S A l) (hl : 0 < l.length) : ∃ ad, A = some ad ∧ ∀ j u, (l.map f)[j]? = some u → w.cell? (ad.add j) = some u := by
  obtain ⟨b, off, e, _⟩ := h hl
  subst e
  exact ⟨_, rfl, rat_cells hR h⟩
def GrowPost (n : Nat) (F : List Int) (ts : List Bool) (w : World) (e : Ending) (w' : World) : Prop := ∃ v, e = .returned v ∧ RBools w' (Over0 w w') v (growT n F ts) ∧ Below w.heap.size w w'
set_option maxRecDepth 100000 in
set_option maxHeartbeats 2000000 in
theorem Grow_any (v : Int) (vC s1 s2 : Value) (F : List Int) (ts : List Bool) (w : World) (h1 : RInts w (Lt w.heap.size) s1 F) (h2 : RBools w (Lt w.heap.size) s2 ts) (hvC : ∃ A n c, vC = .slice A n c) (hv : v ≤ 1024) (hF : ∀ x ∈ F, -1024 ≤ x ∧ x ≤ 1024) :
    Calls Try.prog 14 #[.agg #[.int .i64 v, vC, s1], s2] w (GrowPost v.toNat F ts w) := by
  obtain ⟨A0, n0, c0, rfl⟩ := hvC
  obtain ⟨A1, c1, rfl, hm1, hat1⟩ := h1.open_
  obtain ⟨A2, c2, rfl, hm2, hat2⟩ := h2.open_
  obtain ⟨n, hn⟩ : ∃ n : Nat, n = v.toNat := ⟨_, rfl⟩
  rw [← hn]
  have hn1 : n ≤ 1024 := by omega
  have hb := below_alloc w (.cells #[.int .i64 v, .slice A0 n0 c0, .slice A1 F.length c1] 29)
  have hmk := run_makeN (P := Try.prog) (t := 40) (e := 4) (bytes := 1) (z := .bool false) Try.underlying40 (by kernel_rfl) (by omega) rfl n (by omega) (w.alloc (.cells #[.int .i64 v, .slice A0 n0 c0, .slice A1 F.length c1] 29))
  have Hat1 := Lib.hid hat1
  have Hc := Lib.hid (rat_cells' (f := Value.bool) (fun _ _ _ _ h => h) hat2)
  have HF := Lib.hid hF
  clear h1 h2 hat1 hat2 hF
  have hmx : (if 0 > v then (0 : Int) else v) = (n : Int) := by split <;> omega
  have Hn := Lib.hid hn; clear hn
  obtain ⟨W2, hW2⟩ : ∃ W2, W2 = (w.alloc (.cells #[.int .i64 v, .slice A0 n0 c0, .slice A1 F.length c1] 29)).alloc (.cells (madeCells #[.bool false] n) 4) := ⟨_, rfl⟩
  have hmade : madeCells #[Value.bool false] n = (List.replicate n (Value.bool false)).toArray := by rw [← toList_madeCells_one]
  have hg2 : W2.heap[w.heap.size + 1]? = some (.cells (List.replicate n (Value.bool false)).toArray 4 (0, 0)) := by rw [hW2, hmade]; exact heap_new (by simp)
  have hbW : Below w.heap.size w W2 := by rw [hW2]; exact hb.alloc (by simp) _
  have hbx : W2.cell? ⟨w.heap.size, 0, none⟩ = some (.int .i64 v) ∧ W2.cell? ⟨w.heap.size, 1, none⟩ = some (.slice A0 n0 c0) ∧ W2.cell? ⟨w.heap.size, 2, none⟩ = some (.slice A1 F.length c1) := by rw [hW2]; simp [go_sem]
  have hWs : W2.heap.size = w.heap.size + 1 + 1 := by rw [hW2]; simp
  obtain ⟨cs, hcs⟩ : ∃ cs, cs = (ts.take n).map Value.bool := ⟨_, rfl⟩
  have Hlen : Hid (cs.length = Nat.min ts.length n) := by rw [Hid, hcs]; simp [Nat.min_comm]
  have Hfit : Hid (0 + cs.length ≤ (List.replicate n (Value.bool false)).length) := by rw [Hid, hcs]; simp; omega
  have Hone : Hid (∀ u ∈ cs, u.oneCell' = true) := by
    intro u hu
    rw [hcs] at hu
    obtain ⟨x, _, rfl⟩ := List.mem_map.1 hu
    rfl
  have Hpos : Hid (0 < cs.length → (some ⟨w.heap.size + 1, 0, none⟩ : Option Addr) = some ⟨w.heap.size + 1, 0, none⟩ ∧ ∃ ad, A2 = some ad ∧ ∀ j u, cs[j]? = some u → W2.cell? (ad.add j) = some u) := by
    intro hp
    rw [hcs] at hp
    obtain ⟨ad, e, hc⟩ := Hc.out (by simp at hp; omega)
    refine ⟨rfl, ad, e, fun j u hu => ?_⟩
    have hu' : (ts.map Value.bool)[j]? = some u := by
      rw [hcs, List.map_take, List.getElem?_take] at hu
      split at hu
      · exact hu
      · cases hu
    have h1 := hc j u hu'
    exact (hbW.cell (World.block_lt_of_cell? w _ h1)).trans h1
  have Hcs := Lib.hid hcs
  have HgW := Lib.hid hg2
  have HbW := Lib.hid hbW
  have HW2 := Lib.hid hW2
  have Hbx := Lib.hid hbx
  have HWs := Lib.hid hWs
  clear hcs hg2 hbW hbx hW2 hWs hmade
  go_enter Try.func14, Try.ntmps14
  go_wp2_with (
    rw [← HW2.out]
    with_reducible refine wpList_copy_splice rfl (.tmp 14) (.tmp 15) 40 40 rfl 4 Try.underlying40 (by kernel_rfl) (some ⟨w.heap.size + 1, 0, none⟩) A2 n n ts.length c2 rfl rfl (w.heap.size + 1) 0 (List.replicate n (Value.bool false)) 4 HgW.out cs Hlen.out Hpos.out Hfit.out Hone.out (w.heap.size + 1) W2 (Below.refl _ _) (Nat.le_refl _) ?_
    intro w3 hh hb3
    have hx0 := (hb3.cell (p := ⟨w.heap.size, 0, none⟩) (Nat.lt_succ_self _)).trans Hbx.out.1
    have hx2 := (hb3.cell (p := ⟨w.heap.size, 2, none⟩) (Nat.lt_succ_self _)).trans Hbx.out.2.2
    have Hb3 := Lib.hid hb3
    clear hb3)
  have Hrow0 : Hid (w3.ownsRow (w.heap.size + 1) 4 1 (.slice (some ⟨w.heap.size + 1, 0, none⟩) n n) n (((F.take 0).foldl setT (padT n ts)).map Value.bool)) := by
    refine ⟨by simp [padT_length], .inr ⟨_, n, _, rfl, Nat.le_refl _, hh.out, Nat.le_refl _, by unfold maxLen; omega, ?_, ?_⟩⟩
    · have := Hfit.out; rw [Hcs.out] at this ⊢; simp [splice] at this ⊢; omega
    · rw [Hcs.out]
      simp only [splice, List.take_zero, List.foldl_nil, List.nil_append, Nat.zero_add, padT, List.map_append, List.map_replicate, List.length_map, List.drop_replicate, Nat.mul_one]
      exact List.take_of_length_le (by simp; omega)
  clear hh HgW Hlen Hpos Hfit Hone Hcs Hbx Hc
  go_loopw [20] (fun sv wr => ∃ k : Nat, k ≤ F.length ∧ sv = .int .i64 k ∧ Hid (Below (w.heap.size + 1) w3 wr ∧ wr.ownsRow (w.heap.size + 1) 4 1 (.slice (some ⟨w.heap.size + 1, 0, none⟩) n n) n (((F.take k).foldl setT (padT n ts)).map Value.bool))) (fun sv _ => F.length - (intOf sv).toNat)
  case atStart => exact ⟨0, Nat.zero_le _, rfl, Below.refl _ _, Hrow0.out⟩
  case round =>
    obtain ⟨k, hkle, rfl, hinv⟩ := hrel
    have Hbel := Lib.hid hinv.out.1
    have Hown := Lib.hid hinv.out.2
    clear hinv
    have Hbw := Lib.hid (HbW.out.trans ((Hb3.out.trans Hbel.out).mono (by have := HWs.out; omega)))
    by_cases hklt : k < F.length
    · obtain ⟨bk, offk, uk, rfl, hbk, hcellk, huk⟩ := Hat1.out.lt_ hklt
      obtain rfl := huk
      have hck := (Hbw.out.cell (p := ⟨bk, offk + k, none⟩) hbk).trans hcellk
      obtain ⟨hx1, hx2⟩ := HF.out _ (List.getElem_mem hklt)
      have Hs := Lib.hid (foldT_succ hklt (padT n ts))
      have hol : ((F.take k).foldl setT (padT n ts)).length = n := by rw [foldT_length, padT_length]
      obtain ⟨o, ho⟩ : ∃ o, o = (F.take k).foldl setT (padT n ts) := ⟨_, rfl⟩
      obtain ⟨x, hx⟩ : ∃ x, x = F[k] := ⟨_, rfl⟩
      rw [← hx] at hck hx1 hx2 Hs
      rw [← ho] at Hs Hown hol
      have Hol := Lib.hid hol
      clear hcellk hx ho hol
      rcases Int.lt_trichotomy x 0 with hneg | rfl | hpos
      · obtain ⟨q, rfl⟩ : ∃ q : Nat, x = -((q : Int) + 1) := ⟨(-x - 1).toNat, by omega⟩
        have hgt : -((q : Int) + 1) < -(-((q : Int) + 1)) := by omega
        have hn0 : decide (0 < -((q : Int) + 1)) = false := by simp; omega
        by_cases hq : q < n
        · have Hst := Lib.hid (show setT o (-((q : Int) + 1)) = o.set q false by
            unfold setT
            rw [Hol.out, if_pos (by omega), show (-((q : Int) + 1)).natAbs - 1 = q by omega, hn0])
          have hcq := (own_at Hown.out q).1 hq
          rw [List.getElem?_map, List.getElem?_eq_getElem (by have := Hol.out; omega)] at hcq
          simp only [Option.map_some] at hcq
          have hfq := (own_at Hown.out q).2
          have hqi : (q : Int) + 1 ≤ n := by omega
          go_wp2
          go_roundw
          case rel => exact ⟨k + 1, by omega, by go_num, Hbel.out.setCell (Nat.le_refl _) _, by rw [Hs.out, Hst.out, List.map_set]; exact own_set Hown.out q _⟩
          case measure => simp [intOf]; omega
        · have Hst := Lib.hid (show setT o (-((q : Int) + 1)) = o by unfold setT; rw [Hol.out, if_neg (by omega)])
          have hqi : (n : Int) < (q : Int) + 1 := by omega
          go_wp2
          go_roundw
          case rel => exact ⟨k + 1, by omega, by go_num, Hbel.out, by rw [Hs.out, Hst.out]; exact Hown.out⟩
          case measure => simp [intOf]; omega
      · have Hst := Lib.hid (show setT o 0 = o by unfold setT; rw [if_neg (by simp)])
        go_wp2
        go_roundw
        case rel => exact ⟨k + 1, by omega, by go_num, Hbel.out, by rw [Hs.out, Hst.out]; exact Hown.out⟩
        case measure => simp [intOf]; omega
      · obtain ⟨q, rfl⟩ : ∃ q : Nat, x = (q : Int) + 1 := ⟨(x - 1).toNat, by omega⟩
        have hgt : -((q : Int) + 1) ≤ (q : Int) + 1 := by omega
        have hn0 : decide (0 < (q : Int) + 1) = true := decide_eq_true (by omega)
        by_cases hq : q < n
        · have Hst := Lib.hid (show setT o ((q : Int) + 1) = o.set q true by
            unfold setT
            rw [Hol.out, if_pos (by omega), show ((q : Int) + 1).natAbs - 1 = q by omega, hn0])
          have hcq := (own_at Hown.out q).1 hq
          rw [List.getElem?_map, List.getElem?_eq_getElem (by have := Hol.out; omega)] at hcq
          simp only [Option.map_some] at hcq
          have hfq := (own_at Hown.out q).2
          have hqi : (q : Int) + 1 ≤ n := by omega
          go_wp2
          go_roundw
          case rel => exact ⟨k + 1, by omega, by go_num, Hbel.out.setCell (Nat.le_refl _) _, by rw [Hs.out, Hst.out, List.map_set]; exact own_set Hown.out q _⟩
          case measure => simp [intOf]; omega
        · have Hst := Lib.hid (show setT o ((q : Int) + 1) = o by unfold setT; rw [Hol.out, if_neg (by omega)])
          have hqi : (n : Int) < (q : Int) + 1 := by omega
          go_wp2
          go_roundw
          case rel => exact ⟨k + 1, by omega, by go_num, Hbel.out, by rw [Hs.out, Hst.out]; exact Hown.out⟩
          case measure => simp [intOf]; omega
    · obtain rfl : k = F.length := by omega
      rw [List.take_length] at Hown
      go_wp2
      go_ret
      refine ⟨_, rfl, ?_, Hbw.out⟩
      have hl : ((F.foldl setT (padT n ts))).length = n := by rw [foldT_length, padT_length]
      have hlt := Hown.out.lt
      exact reads_of_own (R := RBool) Hown.out hl (fun g hg => ⟨by have := (hlt g hg).1; omega, (hlt g hg).2⟩) fun i hi u hu => by
        have hi' : i < (F.foldl setT (padT n ts)).length := hi
        rw [List.getElem?_map, List.getElem?_eq_getElem hi'] at hu
        simpa [RBool, eq_comm, growT] using hu
end Go.Proofs.Ytdofiipckcfopaa

namespace Go.Proofs.Ytdofiipckcfopaa
open Go.RowKit

theorem satMay_of {n : Nat} {C : Cls} (hn : n ≤ 1024) (hl : C.length ≤ 16384) (hok : clsOk n C) : satMayN (n : Int) C = 0 := by
  have h2 : C.any (fun c => decide (2048 < c.length)) = false := by
    rw [List.any_eq_false]; intro c hc; have := (hok c hc).1; simpa using this
  have h4 : C.any (fun c => c.any (badLit (n : Int))) = false := by
    rw [List.any_eq_false]; intro c hc
    have : c.any (badLit (n : Int)) = false := by
      rw [List.any_eq_false]; intro x hx
      obtain ⟨a, b, d⟩ := (hok c hc).2 x hx
      simp [badLit, a]; omega
    simp [this]
  unfold satMayN
  rw [if_neg (by omega), h2, h4]
  simp
theorem Steps.end_ {n : Nat} {s t : TrS} (h : Steps n s t) : t = s ∨ t.E = false ∨ t.C = [[]] := by
  induction h with
  | refl => exact .inl rfl
  | head h1 h2 _ ih =>
    rcases ih with rfl | h | h
    · cases hw : way_of h2 with
      | twice => exact .inr (.inl h1)
      | always => exact .inr (.inl h1)
      | empty => exact .inr (.inr rfl)
      | unit => exact .inr (.inl h1)
      | pure => exact .inr (.inl h1)
      | cover => exact .inr (.inl h1)
    · exact .inr (.inl h)
    · exact .inr (.inr h)
theorem stepS_none {n : Nat} {s : TrS} (h : stepS n s = none) : twiceC s.C = none ∧ alwaysC s.C = none ∧ emptyB s.C = false ∧ unitC s.C = none ∧ pureC n s.C = none ∧ coverC s.C = none := by
  unfold stepS at h
  split at h
  · cases h
  next h1 =>
  split at h
  · cases h
  next h2 =>
  split at h
  · cases h
  next h3 =>
  split at h
  · cases h
  next h4 =>
  split at h
  · cases h
  next h5 =>
  split at h
  · cases h
  next h6 => exact ⟨h1, h2, by simpa using h3, h4, h5, h6⟩
theorem stepS_none_of {n : Nat} {s : TrS} (h : twiceC s.C = none ∧ alwaysC s.C = none ∧ emptyB s.C = false ∧ unitC s.C = none ∧ pureC n s.C = none ∧ coverC s.C = none) : stepS n s = none := by
  obtain ⟨h1, h2, h3, h4, h5, h6⟩ := h
  unfold stepS
  rw [h1, h2, h3, h4, h5, h6]
  rfl
/-- Nothing more is left out. -/
structure Ended (n : Nat) (C : Cls) (t : TrS) : Prop where
  may : satMayN (n : Int) t.C = 0
  again : ∀ u, RunTo n (startS t.C) u → u.C = t.C ∧ u.F = []
  less : t.C.length ≤ C.length
  one : ∀ i (h : i < t.C.length), t.C[i].length ≠ 1 ∧ (t.C[i].length = 0 → t.C.length = 1)
  apart : ∀ i j (hi : i < t.C.length) (hj : j < i), t.C[i] ≠ t.C[j]
theorem ended {n : Nat} {C : Cls} {t : TrS} (hn : n ≤ 1024) (hl : C.length ≤ 16384) (hok : clsOk n C) (h : RunTo n (startS C) t) : Ended n C t := by
  obtain ⟨hs, hst⟩ := h
  obtain ⟨h1, h2, h3⟩ := hs.ok (startOk hok)
  have hmay := satMay_of hn (by omega : t.C.length ≤ 16384) h1
  have hE : t.E = true → t.C = [[]] := by
    intro he
    rcases hs.end_ with rfl | h | h
    · simp [startS] at he
    · rw [h] at he; cases he
    · exact h
  rcases hst with he | hst
  · have hC := hE he
    refine ⟨hmay, fun u hu => ?_, by omega, fun i hi => ?_, fun i j hi hj => ?_⟩
    · have : u = ⟨[[]], [], [], true⟩ := by
        rw [hC] at hu
        refine hu.unique ⟨.head rfl ?_ (.refl _), .inl rfl⟩
        rfl
      subst this
      exact ⟨hC.symm, rfl⟩
    · have hi0 : i = 0 := by rw [hC] at hi; simpa using hi
      subst hi0
      simp [hC]
    · rw [hC] at hi; simp at hi; omega
  · have hx := stepS_none hst
    refine ⟨hmay, fun u hu => ?_, by omega, fun i hi => ⟨fun e => ?_, fun e => ?_⟩, fun i j hi hj e => ?_⟩
    · have := hu.unique (u := startS t.C) ⟨.refl _, .inr (stepS_none_of hx)⟩
      subst this
      exact ⟨rfl, rfl⟩
    · have := firstN_none hx.2.2.2.1 i hi
      simp [unAt, atC_eq hi, e] at this
    · have := hx.2.2.1
      have h4 : emptyB t.C = true := emptyB_iff.2 (by have := List.getElem_mem hi; rwa [List.length_eq_zero_iff.1 e] at this)
      rw [this] at h4; cases h4
    · have := firstN_none (firstN_none hx.2.2.2.2.2 j (by omega)) i hi
      have hcv : cvB t.C j i = true := by
        rw [cvB_iff, atC_eq hi, atC_eq (by omega : j < t.C.length), e]
        exact ⟨by omega, Nat.le_refl _, by omega, by unfold withinB; rw [List.all_eq_true]; intro x hx; exact hasB_iff.2 hx⟩
      rw [hcv] at this
      simp at this

/-! ### Truths -/
theorem litTrue_not {o : List Bool} {m : Int} (hm : m ≠ 0) : litTrue o (-m) = !litTrue o m := by
  unfold litTrue
  rcases Int.lt_or_lt_of_ne hm with h | h
  · rw [if_pos (by omega), if_neg (by omega), if_pos h]; simp
  · rw [if_neg (by omega), if_pos (by omega), if_pos h]; simp
theorem litTrue_set {o : List Bool} {x : Int} (h1 : 1 ≤ x.natAbs) (h2 : x.natAbs ≤ o.length) : litTrue (setT o x) x = true := by
  have e : setT o x = o.set (x.natAbs - 1) (decide (0 < x)) := by unfold setT; rw [if_pos ⟨h1, h2⟩]
  rw [e]
  unfold litTrue
  by_cases h : 0 < x
  · rw [if_pos h, show x.toNat - 1 = x.natAbs - 1 by omega, List.getD, List.getElem?_set_self (by omega)]; simp [h]
  · rw [if_neg h, if_pos (by omega), show (-x).toNat - 1 = x.natAbs - 1 by omega, List.getD, List.getElem?_set_self (by omega)]; simp; omega
theorem litTrue_other {o : List Bool} {x m : Int} (hm : m ≠ 0) (h : m.natAbs ≠ x.natAbs) : litTrue (setT o x) m = litTrue o m := by
  unfold setT
  split
  · unfold litTrue
    rcases Int.lt_or_lt_of_ne hm with h1 | h1
    · rw [if_neg (by omega), if_pos h1, if_neg (by omega), if_pos h1, List.getD, List.getElem?_set_ne (by omega)]; rfl
    · rw [if_pos h1, if_pos h1, List.getD, List.getElem?_set_ne (by omega)]; rfl
  · rfl
theorem setT_comm {o : List Bool} {x y : Int} (h : x.natAbs ≠ y.natAbs) : setT (setT o x) y = setT (setT o y) x := by
  unfold setT
  by_cases hx : 1 ≤ x.natAbs ∧ x.natAbs ≤ o.length
  · by_cases hy : 1 ≤ y.natAbs ∧ y.natAbs ≤ o.length
    · rw [if_pos hx, if_pos hy, if_pos (by simpa using hy), if_pos (by simpa using hx)]
      exact List.set_comm _ _ (by omega)
    · rw [if_pos hx, if_neg hy, if_pos hx, if_neg (by simpa using hy)]
  · by_cases hy : 1 ≤ y.natAbs ∧ y.natAbs ≤ o.length
    · rw [if_neg hx, if_pos hy, if_neg (by simpa using hx)]
    · rw [if_neg hx, if_neg hy, if_neg hx]
theorem foldT_comm {x : Int} : ∀ (F : List Int) (o : List Bool), (∀ f ∈ F, f.natAbs ≠ x.natAbs) → F.foldl setT (setT o x) = setT (F.foldl setT o) x
  | [], _, _ => rfl
  | f :: F, o, h => by
    rw [List.foldl_cons, List.foldl_cons, setT_comm (fun e => h f (by simp) e.symm), foldT_comm F _ fun g hg => h g (by simp [hg])]
def satC (C : Cls) (o : List Bool) : Bool := C.all (clauseTrue o)
theorem satC_iff {C : Cls} {o : List Bool} : satC C o = true ↔ ∀ c ∈ C, clauseTrue o c = true := by unfold satC; exact List.all_eq_true
theorem clauseTrue_iff {o : List Bool} {c : List Int} : clauseTrue o c = true ↔ ∃ m ∈ c, litTrue o m = true := by unfold clauseTrue; exact List.any_eq_true
theorem dup_mem {c : List Int} {k : Nat} (h : dupK c = some k) (x : Int) : x ∈ c.eraseIdx k ↔ x ∈ c := by
  obtain ⟨hk, hm⟩ := dupK_some h
  constructor
  · exact List.mem_of_mem_eraseIdx
  · intro hx
    obtain ⟨i, hi, rfl⟩ := List.getElem_of_mem hx
    by_cases e : i = k
    · subst e
      rw [getD_at hk] at hm
      obtain ⟨j, hj, he⟩ := List.mem_take_iff_getElem.1 hm
      rw [← he]
      exact List.mem_eraseIdx_iff_getElem.2 ⟨j, by omega, by omega, rfl⟩
    · exact List.mem_eraseIdx_iff_getElem.2 ⟨i, hi, e, rfl⟩
theorem satC_set {C : Cls} {i : Nat} {c : List Int} {o : List Bool} (hi : i < C.length) (h : clauseTrue o c = clauseTrue o (atC C i)) : satC (C.set i c) o = satC C o := by
  rw [atC_eq hi] at h
  rw [Bool.eq_iff_iff, satC_iff, satC_iff]
  constructor
  · intro hs d hd
    obtain ⟨j, hj, rfl⟩ := List.getElem_of_mem hd
    by_cases e : i = j
    · subst e
      rw [← h]
      exact hs c (List.mem_iff_getElem.2 ⟨i, by simpa using hj, by simp⟩)
    · exact hs _ (List.mem_iff_getElem.2 ⟨j, by simpa using hj, by simp [e]⟩)
  · intro hs d hd
    rcases List.mem_or_eq_of_mem_set hd with hd | rfl
    · exact hs d hd
    · rw [h]; exact hs _ (List.getElem_mem hi)
theorem satC_erase {C : Cls} {i : Nat} {o : List Bool} (hi : i < C.length) : satC C o = true ↔ satC (C.eraseIdx i) o = true ∧ clauseTrue o (atC C i) = true := by
  rw [satC_iff, satC_iff, atC_eq hi]
  constructor
  · intro h; exact ⟨fun c hc => h c (List.mem_of_mem_eraseIdx hc), h _ (List.getElem_mem hi)⟩
  · rintro ⟨h1, h2⟩ c hc
    obtain ⟨j, hj, rfl⟩ := List.getElem_of_mem hc
    by_cases e : j = i
    · subst e; exact h2
    · exact h1 _ (List.mem_eraseIdx_iff_getElem.2 ⟨j, hj, e, rfl⟩)
theorem always_true {vars : Nat} {c : List Int} {o : List Bool} (hok : clOk vars c) (h : alwaysB c = true) : clauseTrue o c = true := by
  unfold alwaysB at h
  obtain ⟨m, hm, hn⟩ := List.any_eq_true.1 h
  rw [hasB_iff] at hn
  rw [clauseTrue_iff]
  cases hl : litTrue o m with
  | true => exact ⟨m, hm, hl⟩
  | false => exact ⟨-m, hn, by rw [litTrue_not (hok.2 m hm).1, hl]; rfl⟩
theorem cover_true {C : Cls} {i k : Nat} {o : List Bool} (hi : i < C.length) (h : cvB C i k = true) (hs : satC (C.eraseIdx k) o = true) : clauseTrue o (atC C k) = true := by
  obtain ⟨h1, _, _, h4⟩ := cvB_iff.1 h
  have := satC_iff.1 hs (atC C i) (by rw [atC_eq hi]; exact List.mem_eraseIdx_iff_getElem.2 ⟨i, hi, h1, rfl⟩)
  obtain ⟨m, hm, hl⟩ := clauseTrue_iff.1 this
  exact clauseTrue_iff.2 ⟨m, hasB_iff.1 (List.all_eq_true.1 h4 m hm), hl⟩
theorem mem_fix {C : Cls} {n : Int} {d : List Int} : d ∈ fixC C n ↔ ∃ c ∈ C, n ∉ c ∧ d = c.filter fun k => !(k == -n) := by
  simp only [fixC, List.mem_map, List.mem_filter, Bool.not_eq_true']
  constructor
  · rintro ⟨c, ⟨hc, hn⟩, rfl⟩
    exact ⟨c, hc, (fun h => by rw [hasB_iff.2 h] at hn; cases hn), rfl⟩
  · rintro ⟨c, hc, hn, rfl⟩
    refine ⟨c, ⟨hc, ?_⟩, rfl⟩
    cases h : hasB c n with
    | false => rfl
    | true => exact absurd (hasB_iff.1 h) hn
theorem Way.okC {vars : Nat} {s t : TrS} (h : Way vars s t) (h1 : clsOk vars s.C) : clsOk vars t.C := by
  cases h with
  | twice i k g1 g2 =>
    intro c hc
    rcases List.mem_or_eq_of_mem_set hc with hc | rfl
    · exact h1 c hc
    · obtain ⟨a, b⟩ := h1 _ (atC_mem g1)
      exact ⟨Nat.le_trans (List.length_eraseIdx_le _ _) a, fun x hx => b x (List.mem_of_mem_eraseIdx hx)⟩
  | always i g1 g2 => exact fun c hc => h1 c (List.mem_of_mem_eraseIdx hc)
  | empty g1 => intro c hc; simp at hc; subst hc; exact h1 _ g1
  | unit n g1 => exact clsOk_fix h1
  | pure n g1 g2 g3 => exact clsOk_fix h1
  | cover i k g1 g2 g3 => exact fun c hc => h1 c (List.mem_of_mem_eraseIdx hc)
/-- What makes the clauses true makes true what is left of them. -/
theorem Way.keeps {vars : Nat} {s t : TrS} (h : Way vars s t) (hok : clsOk vars s.C) {o : List Bool} (hs : satC s.C o = true) : satC t.C o = true := by
  cases h with
  | twice i k h1 h2 =>
    rw [satC_set h1]
    · exact hs
    · rw [Bool.eq_iff_iff, clauseTrue_iff, clauseTrue_iff]
      exact ⟨fun ⟨m, hm, hl⟩ => ⟨m, (dup_mem h2 m).1 hm, hl⟩, fun ⟨m, hm, hl⟩ => ⟨m, (dup_mem h2 m).2 hm, hl⟩⟩
  | always i h1 h2 => exact ((satC_erase h1).1 hs).1
  | empty h1 => have := satC_iff.1 hs _ h1; simp [clauseTrue] at this
  | unit n h1 =>
    have hn := satC_iff.1 hs _ h1
    simp only [clauseTrue, List.any_cons, List.any_nil, Bool.or_false] at hn
    have hn0 : n ≠ 0 := ((hok _ h1).2 n (by simp)).1
    rw [satC_iff]
    intro d hd
    obtain ⟨c, hc, hnc, rfl⟩ := mem_fix.1 hd
    obtain ⟨m, hm, hl⟩ := clauseTrue_iff.1 (satC_iff.1 hs c hc)
    refine clauseTrue_iff.2 ⟨m, List.mem_filter.2 ⟨hm, ?_⟩, hl⟩
    simp
    rintro rfl
    rw [litTrue_not hn0, hn] at hl
    cases hl
  | pure n h1 h2 h3 =>
    rw [satC_iff]
    intro d hd
    obtain ⟨c, hc, hnc, rfl⟩ := mem_fix.1 hd
    obtain ⟨m, hm, hl⟩ := clauseTrue_iff.1 (satC_iff.1 hs c hc)
    refine clauseTrue_iff.2 ⟨m, List.mem_filter.2 ⟨hm, ?_⟩, hl⟩
    simp
    rintro rfl
    have : posB s.C (-n) = true := posB_iff.2 ⟨c, hc, hm⟩
    rw [this] at h3; cases h3
  | cover i k h1 h2 h3 => exact ((satC_erase h2).1 hs).1
/-- Truths of what is left, and what was fixed, make the question true. -/
structure Grows (vars : Nat) (C0 : Cls) (s : TrS) : Prop where
  ok : clsOk vars s.C
  lits : ∀ f ∈ s.F, litOk vars f
  apart : ∀ f ∈ s.F, ∀ c ∈ s.C, ∀ m ∈ c, f.natAbs ≠ m.natAbs
  back : ∀ o : List Bool, o.length = vars → satC s.C o = true → satC C0 (s.F.foldl setT o) = true
theorem grows_fix {vars : Nat} {C0 : Cls} {s : TrS} {n : Int} {U : List Int} (h : Grows vars C0 s) (hn : litOk vars n) (hp : posB s.C n = true) : Grows vars C0 { fixS s n with U := U } := by
  obtain ⟨c0, hc0, hm0⟩ := posB_iff.1 hp
  refine ⟨clsOk_fix h.ok, fun f hf => ?_, fun f hf d hd m hm => ?_, fun o ho hs => ?_⟩
  · rcases List.mem_append.1 hf with hf | hf
    · exact h.lits f hf
    · simp at hf; subst hf; exact hn
  · obtain ⟨c, hc, hnc, rfl⟩ := mem_fix.1 hd
    obtain ⟨hmc, hmn⟩ := List.mem_filter.1 hm
    rcases List.mem_append.1 hf with hf | hf
    · exact h.apart f hf c hc m hmc
    · simp at hf; subst hf
      simp at hmn
      intro e
      have : m = f ∨ m = -f := by omega
      rcases this with rfl | rfl
      · exact hnc hmc
      · exact hmn rfl
  · show satC C0 ((s.F ++ [n]).foldl setT o) = true
    rw [List.foldl_append]
    show satC C0 (setT (s.F.foldl setT o) n) = true
    rw [← foldT_comm s.F o fun f hf => h.apart f hf c0 hc0 n hm0]
    obtain ⟨hn0, hn1, hn2⟩ := hn
    refine h.back _ (by rw [setT_length]; exact ho) (satC_iff.2 fun c hc => ?_)
    by_cases hnc : n ∈ c
    · exact clauseTrue_iff.2 ⟨n, hnc, litTrue_set (by omega) (by omega)⟩
    · obtain ⟨m, hm, hl⟩ := clauseTrue_iff.1 (satC_iff.1 hs _ (mem_fix.2 ⟨c, hc, hnc, rfl⟩))
      obtain ⟨hmc, hmn⟩ := List.mem_filter.1 hm
      simp at hmn
      have hm0 := ((h.ok c hc).2 m hmc).1
      refine clauseTrue_iff.2 ⟨m, hmc, ?_⟩
      rw [litTrue_other hm0]
      · exact hl
      · intro e
        have : m = n ∨ m = -n := by omega
        rcases this with rfl | rfl
        · exact hnc hmc
        · exact hmn rfl
theorem Way.grows {vars : Nat} {C0 : Cls} {s t : TrS} (h : Way vars s t) (hs : Grows vars C0 s) : Grows vars C0 t := by
  have hok := h.okC hs.ok
  cases h with
  | twice i k h1 h2 =>
    refine ⟨hok, hs.lits, fun f hf c hc m hm => ?_, fun o ho hh => hs.back o ho ?_⟩
    · rcases List.mem_or_eq_of_mem_set hc with hc | rfl
      · exact hs.apart f hf c hc m hm
      · exact hs.apart f hf _ (atC_mem h1) m (List.mem_of_mem_eraseIdx hm)
    · rw [← hh]
      refine (satC_set h1 ?_).symm
      rw [Bool.eq_iff_iff, clauseTrue_iff, clauseTrue_iff]
      exact ⟨fun ⟨m, hm, hl⟩ => ⟨m, (dup_mem h2 m).1 hm, hl⟩, fun ⟨m, hm, hl⟩ => ⟨m, (dup_mem h2 m).2 hm, hl⟩⟩
  | always i h1 h2 => exact ⟨hok, hs.lits, fun f hf c hc => hs.apart f hf c (List.mem_of_mem_eraseIdx hc), fun o ho hh => hs.back o ho ((satC_erase h1).2 ⟨hh, always_true (hs.ok _ (atC_mem h1)) h2⟩)⟩
  | empty h1 => exact ⟨hok, hs.lits, fun f hf c hc m hm => by simp at hc; subst hc; simp at hm, fun o ho hh => by simp [satC, clauseTrue] at hh⟩
  | unit n h1 => exact grows_fix hs ((hs.ok _ h1).2 n (by simp)) (posB_iff.2 ⟨_, h1, by simp⟩)
  | pure n h1 h2 h3 =>
    obtain ⟨c, hc, hm⟩ := posB_iff.1 h2
    exact grows_fix (U := s.U) hs ((hs.ok c hc).2 n hm) h2
  | cover i k h1 h2 h3 => exact ⟨hok, hs.lits, fun f hf c hc => hs.apart f hf c (List.mem_of_mem_eraseIdx hc), fun o ho hh => hs.back o ho ((satC_erase h2).2 ⟨hh, cover_true h1 h3 hh⟩)⟩
theorem Steps.grows {vars : Nat} {C0 : Cls} {s t : TrS} (h : Steps vars s t) (hs : Grows vars C0 s) : Grows vars C0 t ∧ ∀ o, satC s.C o = true → satC t.C o = true := by
  induction h with
  | refl => exact ⟨hs, fun _ h => h⟩
  | head h1 h2 _ ih =>
    obtain ⟨a, b⟩ := ih ((way_of h2).grows hs)
    exact ⟨a, fun o ho => b o ((way_of h2).keeps hs.ok ho)⟩
theorem run_grows {n : Nat} {C : Cls} {t : TrS} (hok : clsOk n C) (h : RunTo n (startS C) t) : Grows n C t ∧ ∀ o, satC C o = true → satC t.C o = true :=
  h.1.grows ⟨hok, fun f hf => by simp [startS] at hf, fun f hf => by simp [startS] at hf, fun o _ hs => hs⟩
end Go.Proofs.Ytdofiipckcfopaa

namespace Go.Proofs.Ytdofiipckcfopaa
open Go.RowKit Go.ChangeShapes Go.WideShapes Go.ChangeAt Go.Deep Go.Joins

theorem RSl.weak {w : World} {S : Nat → Prop} {v : Value} {l : List Int} (h : RSl RIntW w S v l) : RInts w S v l := h.map_ fun _ _ _ h => h.1
theorem reads1_map {α : Type} {P : Program} {t : TypeId} {R R' : Rd α} (h : Reads1 P t R) (hm : ∀ w S v x, R w S v x → R' w S v x) : Reads1 P t R' := fun h1 h2 => by
  obtain ⟨v, d, e, hd⟩ := h h1 h2
  exact ⟨v, d, e, hm _ _ _ _ hd⟩
theorem reads1_intsW : Reads1 Try.prog 27 (RSl RIntW) := reads1_slice Try.underlying27 (by kernel_rfl) (reads1_int Try.underlying3)
theorem reads1_ints : Reads1 Try.prog 27 RInts := reads1_map reads1_intsW fun _ _ _ _ h => h.weak
theorem reads1_intss : Reads1 Try.prog 22 RIntss := reads1_slice Try.underlying22 (by kernel_rfl) reads1_ints
theorem reads1_bools : Reads1 Try.prog 40 RBools := reads1_slice Try.underlying40 (by kernel_rfl) (reads1_bool Try.underlying4)
set_option maxRecDepth 100000 in
theorem arg_slice {α : Type} {w : World} {t e : TypeId} {v : Value} {R : Rd (List α)} (h : Arg Try.prog w t v) (ht : Try.prog.underlying t = some (.slice e)) (hR : Reads1 Try.prog t R) : ∃ l, R w (Lt w.heap.size) v l := by
  refine h.read1 hR fun cs e => ?_
  subst e
  obtain ⟨H, enc, base, d, p, hv, _⟩ := h
  obtain ⟨a0, len, cap, e⟩ := okWide_slice ht hv
  cases e
set_option maxRecDepth 100000 in
theorem arg_int {W : World} {v : Value} (h : Arg Try.prog W 3 v) : ∃ n : Int, v = .int .i64 n ∧ -9223372036854775808 ≤ n ∧ n ≤ 9223372036854775807 :=
  h.read1 (reads1_int Try.underlying3) fun cs e => by
    subst e
    obtain ⟨H, enc, base, d, p, hv, ht, _⟩ := h
    obtain ⟨n, e⟩ := WideShapes.okWide_int Try.underlying3 hv
    cases e
set_option maxRecDepth 100000 in
theorem arg_question {w : World} {v : Value} (h : Arg Try.prog w 24 v) : ∃ n s C, v = .agg #[.int .i64 n, s] ∧ RIntss w (Lt w.heap.size) s C ∧ -9223372036854775808 ≤ n ∧ n ≤ 9223372036854775807 := by
  obtain ⟨H, enc, base, d, p, hv, ⟨fuel, hf⟩, hlt⟩ := h
  obtain ⟨cs, rfl, hsz⟩ := okWide_struct Try.underlying24 hv
  obtain ⟨c0, c1, rfl⟩ := array2 (hsz.trans (by kernel_rfl))
  obtain ⟨y0, y1, n, hx, _, g0, g1⟩ := trod_struct2 Try.underlying24 hf
  simp only [Prod.mk.injEq] at hx
  obtain ⟨rfl, rfl⟩ := hx
  have k1 : Try.prog.cellsOf 3 = 1 := by kernel_rfl
  have k2 : Try.prog.cellsOf 22 = 1 := by kernel_rfl
  obtain ⟨u0, x0, e0, r0⟩ := reads1_int Try.underlying3 (by simpa [Value.cells, k1] using g0) (fun q hq => hlt q (by simp [hq]))
  obtain ⟨u1, C, e1, r1⟩ := reads1_intss (by simpa [Value.cells, k2] using g1) (fun q hq => hlt q (by simp [hq]))
  simp at e0 e1
  subst e0 e1
  obtain ⟨rfl, b1, b2⟩ := r0
  exact ⟨x0, _, C, rfl, r1, b1, b2⟩
end Go.Proofs.Ytdofiipckcfopaa
