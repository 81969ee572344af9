/- What all steps of the layer trim make of a question. -/
import Derived.Test.YtdofiipckcfopaaTrimW6
import Derived.Deep.LoopGhost
namespace Go.Proofs.Ytdofiipckcfopaa
open Go.RowKit

def RunPost (X : Nat → Prop) (g vars : Nat) (s : TrS) (w : World) (e : Ending) (w' : World) : Prop := e = .returned (.tuple #[]) ∧ ∃ t, RunTo vars s t ∧ Ch (fun b => ¬ X b) w w' ∧ Wk w' X g vars t
theorem Wk.protect {w : World} {X : Nat → Prop} {g vars : Nat} {s : TrS} (h : Wk w X g vars s) (o : Obj) : Wk (w.alloc o) (fun b => X b ∨ b = w.heap.size) g vars s := by
  obtain ⟨vC, vF, vU, cs, h⟩ := h
  have hk := h.keep (below_alloc w o)
  have hl := h.ltC
  refine ⟨vC, vF, vU, cs, hk.hg, hk.oC, hk.oF, hk.oU, hk.cl, hk.aCF, hk.aCU, hk.aFU, ?_, ?_, ?_, ?_, ?_, fun b hb => .inl (hk.xlow b hb)⟩
  · rintro (x | x)
    · exact hk.xg x
    · have := h.lt; omega
  · rintro b hb (x | x)
    · exact hk.xC b hb x
    · have := hl.1 b hb; omega
  · rintro b hb (x | x)
    · exact hk.xF b hb x
    · have := hl.2.1 b hb; omega
  · rintro b hb (x | x)
    · exact hk.xU b hb x
    · have := hl.2.2 b hb; omega
  · rintro b (x | x)
    · exact hk.xlt b x
    · subst x; simp
theorem Wk.unprotect {w : World} {X X' : Nat → Prop} {g vars : Nat} {s : TrS} (h : Wk w X' g vars s) (hx : ∀ b, X b → X' b) (hl : ∀ b, b < g → X b) : Wk w X g vars s := by
  obtain ⟨vC, vF, vU, cs, h⟩ := h
  exact ⟨vC, vF, vU, cs, h.hg, h.oC, h.oF, h.oU, h.cl, h.aCF, h.aCU, h.aFU, fun x => h.xg (hx _ x), fun b hb x => h.xC b hb (hx _ x), fun b hb x => h.xF b hb (hx _ x), fun b hb x => h.xU b hb (hx _ x), fun b hb => h.xlt b (hx _ hb), hl⟩
/-- The first j steps weren't there. -/
structure Tried (vars : Nat) (s : TrS) (j : Nat) : Prop where
  h1 : 1 ≤ j → twiceC s.C = none
  h2 : 2 ≤ j → alwaysC s.C = none
  h3 : 3 ≤ j → emptyB s.C = false
  h4 : 4 ≤ j → unitC s.C = none
  h5 : 5 ≤ j → pureC vars s.C = none
  h6 : 6 ≤ j → coverC s.C = none
theorem Tried.none_ {vars : Nat} {s : TrS} (h : Tried vars s 6) : stepS vars s = none := by
  unfold stepS
  rw [h.h1 (by omega), h.h2 (by omega), h.h3 (by omega), h.h4 (by omega), h.h5 (by omega), h.h6 (by omega)]
  rfl
theorem Tried.next0 {vars : Nat} {s : TrS} (k : twiceC s.C = none) : Tried vars s 1 := ⟨fun _ => k, fun h => by omega, fun h => by omega, fun h => by omega, fun h => by omega, fun h => by omega⟩
theorem Tried.next1 {vars : Nat} {s : TrS} (h : Tried vars s 1) (k : alwaysC s.C = none) : Tried vars s 2 := ⟨fun _ => h.h1 (by omega), fun _ => k, fun h => by omega, fun h => by omega, fun h => by omega, fun h => by omega⟩
theorem Tried.next2 {vars : Nat} {s : TrS} (h : Tried vars s 2) (k : emptyB s.C = false) : Tried vars s 3 := ⟨fun _ => h.h1 (by omega), fun _ => h.h2 (by omega), fun _ => k, fun h => by omega, fun h => by omega, fun h => by omega⟩
theorem Tried.next3 {vars : Nat} {s : TrS} (h : Tried vars s 3) (k : unitC s.C = none) : Tried vars s 4 := ⟨fun _ => h.h1 (by omega), fun _ => h.h2 (by omega), fun _ => h.h3 (by omega), fun _ => k, fun h => by omega, fun h => by omega⟩
theorem Tried.next4 {vars : Nat} {s : TrS} (h : Tried vars s 4) (k : pureC vars s.C = none) : Tried vars s 5 := ⟨fun _ => h.h1 (by omega), fun _ => h.h2 (by omega), fun _ => h.h3 (by omega), fun _ => h.h4 (by omega), fun _ => k, fun h => by omega⟩
theorem Tried.next5 {vars : Nat} {s : TrS} (h : Tried vars s 5) (k : coverC s.C = none) : Tried vars s 6 := ⟨fun _ => h.h1 (by omega), fun _ => h.h2 (by omega), fun _ => h.h3 (by omega), fun _ => h.h4 (by omega), fun _ => h.h5 (by omega), fun _ => k⟩
theorem Tried.did0 {vars : Nat} {s : TrS} {C : Cls} (k : twiceC s.C = some C) : stepS vars s = some (setC s (some C)) := by unfold stepS; rw [k]; rfl
theorem Tried.did1 {vars : Nat} {s : TrS} (h : Tried vars s 1) {C : Cls} (k : alwaysC s.C = some C) : stepS vars s = some (setC s (some C)) := by unfold stepS; rw [h.h1 (by omega), k]; rfl
theorem Tried.did2 {vars : Nat} {s : TrS} (h : Tried vars s 2) (k : emptyB s.C = true) : stepS vars s = some (setEm s) := by unfold stepS setEm; rw [h.h1 (by omega), h.h2 (by omega), k]; rfl
theorem Tried.did3 {vars : Nat} {s : TrS} (h : Tried vars s 3) {n : Int} (k : unitC s.C = some n) : stepS vars s = some (setUn s (some n)) := by unfold stepS; rw [h.h1 (by omega), h.h2 (by omega), h.h3 (by omega), k]; rfl
theorem Tried.did4 {vars : Nat} {s : TrS} (h : Tried vars s 4) {n : Int} (k : pureC vars s.C = some n) : stepS vars s = some (setPu s (some n)) := by unfold stepS; rw [h.h1 (by omega), h.h2 (by omega), h.h3 (by omega), h.h4 (by omega), k]; rfl
theorem Tried.did5 {vars : Nat} {s : TrS} (h : Tried vars s 5) {C : Cls} (k : coverC s.C = some C) : stepS vars s = some (setC s (some C)) := by unfold stepS; rw [h.h1 (by omega), h.h2 (by omega), h.h3 (by omega), h.h4 (by omega), h.h5 (by omega), k]; rfl

def stepVal (g : Nat) (j : Nat) : Value := .func (.func ([37, 38, 39, 40, 41, 42].getD j 0)) #[.pointer (some ⟨g, 0, none⟩)] #[]
theorem callFunc_steps : (∀ (args : Array Value) (w : World), (callFunc 37 args).run Try.prog w = .ok (.enter 37 args) w) ∧ (∀ (args : Array Value) (w : World), (callFunc 38 args).run Try.prog w = .ok (.enter 38 args) w) ∧
    (∀ (args : Array Value) (w : World), (callFunc 39 args).run Try.prog w = .ok (.enter 39 args) w) ∧ (∀ (args : Array Value) (w : World), (callFunc 40 args).run Try.prog w = .ok (.enter 40 args) w) ∧
    (∀ (args : Array Value) (w : World), (callFunc 41 args).run Try.prog w = .ok (.enter 41 args) w) ∧ (∀ (args : Array Value) (w : World), (callFunc 42 args).run Try.prog w = .ok (.enter 42 args) w) :=
  ⟨callFunc_run Try.func37 (by kernel_rfl) (by kernel_rfl), callFunc_run Try.func38 (by kernel_rfl) (by kernel_rfl), callFunc_run Try.func39 (by kernel_rfl) (by kernel_rfl), callFunc_run Try.func40 (by kernel_rfl) (by kernel_rfl), callFunc_run Try.func41 (by kernel_rfl) (by kernel_rfl), callFunc_run Try.func42 (by kernel_rfl) (by kernel_rfl)⟩
set_option maxRecDepth 100000 in
set_option maxHeartbeats 4000000 in
theorem run_any (X : Nat → Prop) (g vars n0 : Nat) (s : TrS) (w : World) (hw : Wk w X g vars s) (hok : TrOk vars n0 s) (hv : vars ≤ 1024) (hn0 : n0 ≤ 100000) (hE : s.E = false) :
    Calls Try.prog 28 #[.pointer (some ⟨g, 0, none⟩)] w (RunPost X g vars s w) := by
  obtain ⟨cf0, cf1, cf2, cf3, cf4, cf5⟩ := callFunc_steps
  have Hw := Lib.hid hw
  have Hok := Lib.hid hok
  have HE := Lib.hid hE
  clear hw hok hE
  go_enter Try.func28, Try.ntmps28
  go_wp2
  have hWk := Hw.out.protect (.cells #[stepVal g 0, stepVal g 1, stepVal g 2, stepVal g 3, stepVal g 4, stepVal g 5] 26)
  have hlow : ∀ b, b < g → X b := by obtain ⟨_, _, _, _, h⟩ := Hw.out; exact h.xlow
  have Hlow := Lib.hid hlow
  have hrow : ∀ j, (w.alloc (.cells #[stepVal g 0, stepVal g 1, stepVal g 2, stepVal g 3, stepVal g 4, stepVal g 5] 26)).cell? ⟨w.heap.size, j, none⟩ = #[stepVal g 0, stepVal g 1, stepVal g 2, stepVal g 3, stepVal g 4, stepVal g 5][j]? := fun j => by simp
  have hsz : w.heap.size < (w.alloc (.cells #[stepVal g 0, stepVal g 1, stepVal g 2, stepVal g 3, stepVal g 4, stepVal g 5] 26)).heap.size := by simp
  have Hch0 := Lib.hid (ch_refl' (D := fun b => ¬ X b) (below_alloc w (.cells #[stepVal g 0, stepVal g 1, stepVal g 2, stepVal g 3, stepVal g 4, stepVal g 5] 26)))
  change Code.wp _ _ _ _ (w.alloc (.cells #[stepVal g 0, stepVal g 1, stepVal g 2, stepVal g 3, stepVal g 4, stepVal g 5] 26))
  obtain ⟨X', hX'⟩ : ∃ X' : Nat → Prop, X' = fun b => X b ∨ b = w.heap.size := ⟨_, rfl⟩
  rw [← hX'] at hWk
  have HX1 : Hid (∀ b, X b → X' b) := fun b hb => by rw [hX']; exact .inl hb
  have HX2 : Hid (X' w.heap.size) := by rw [hX']; exact .inr rfl
  clear hX' hlow
  generalize w.alloc (.cells #[stepVal g 0, stepVal g 1, stepVal g 2, stepVal g 3, stepVal g 4, stepVal g 5] 26) = w0 at *
  have HWk := Lib.hid hWk
  have Hrow := Lib.hid hrow
  clear hWk hrow
  go_loopg [3] (2 * sizeS s + 1) (fun gk ag wr => ∃ (t : TrS) (b : Bool), ag = .bool b ∧ Hid (Steps vars s t ∧ (b = false → stepS vars t = none) ∧ gk = 2 * sizeS t + (if b then 1 else 0)) ∧ Hid (Wk wr X' g vars t ∧ Ch (fun x => ¬ X' x) w0 wr))
  case atStart => exact ⟨s, true, rfl, ⟨.refl _, fun h => by simp at h, rfl⟩, HWk.out, Ch.refl _ _⟩
  case round =>
    obtain ⟨t, b, rfl, hinv, hw2⟩ := hrel
    have HfinW : Hid (Stop vars t → RunPost X g vars s w (.returned (.tuple #[])) wr) := fun hs =>
      ⟨rfl, t, ⟨hinv.out.1, hs⟩, Hch0.out.trans (hw2.out.2.imp fun i _ h x => h (HX1.out i x)), hw2.out.1.unprotect HX1.out Hlow.out⟩
    have hce : wr.cell? ⟨g, 4, none⟩ = some (.bool t.E) := by obtain ⟨_, _, _, _, h⟩ := hw2.out.1; exact h.cell.2.2.2.2
    cases b with
    | false =>
      have Hst := Lib.hid (show Stop vars t from .inr (hinv.out.2.1 rfl))
      go_wp2
      go_end0
      exact HfinW.out Hst.out
    | true =>
      cases hE : t.E with
      | true =>
        have Hst := Lib.hid (show Stop vars t from .inl hE)
        rw [hE] at hce
        clear hE
        go_wp2
        go_end0
        exact HfinW.out Hst.out
      | false =>
        rw [hE] at hce
        have HEt := Lib.hid hE
        have Hgk := Lib.hid hinv.out.2.2
        have Hst := Lib.hid hinv.out.1
        have Hokt := Lib.hid (hinv.out.1.ok Hok.out)
        have hcl : t.C.length ≤ 1000000 := by have := Hokt.out.2.1; omega
        have hfl : t.F.length ≤ 1000000 := by have := Hokt.out.2.1; omega
        have hul : t.U.length ≤ 1000000 := by have := Hokt.out.2.2; omega
        have Hw2 := Lib.hid hw2.out
        clear hE hinv hw2 HfinW
        go_wp2
        go_loopw [29, 3] (fun sv ag wi => ∃ j : Nat, j ≤ 6 ∧ sv = .int .i64 j ∧ ag = .bool false ∧ Hid (Tried vars t j) ∧ Hid (Wk wi X' g vars t ∧ Ch (fun x => ¬ X' x) w0 wi)) (fun sv _ _ => 6 - (intOf sv).toNat)
        case atStart => exact ⟨0, Nat.zero_le _, rfl, rfl, ⟨fun h => by omega, fun h => by omega, fun h => by omega, fun h => by omega, fun h => by omega, fun h => by omega⟩, Hw2.out⟩
        case round =>
          obtain ⟨wi, rfl⟩ : ∃ w0 : World, w0 = wr := ⟨_, rfl⟩
          obtain ⟨j, hj, rfl, rfl, htr, hwi⟩ := hrel
          have Hwi := Lib.hid hwi.out.1
          have Hchi := Lib.hid hwi.out.2
          clear hwi
          have hcell : wi.cell? ⟨w.heap.size, j, none⟩ = #[stepVal g 0, stepVal g 1, stepVal g 2, stepVal g 3, stepVal g 4, stepVal g 5][j]? := (World.cell?_of_block (w := w0) (Hchi.out.block w.heap.size hsz fun h => h HX2.out)).trans (Hrow.out j)
          match j, hj with
          | 0, _ =>
            replace hcell : wi.cell? ⟨w.heap.size, 0, none⟩ = some (.func (.func 37) #[.pointer (some ⟨g, 0, none⟩)] #[]) := hcell
            cases hc : twiceC t.C with
            | none =>
              have Hc := Lib.hid hc
              clear hc
              go_wp2_with fail
              refine (twice_any X' g vars t _ Hwi.out Hokt.out.1).mono ?_
              rintro e w2 ⟨he, hch2, hwk2⟩
              rw [Hc.out] at he hwk2
              obtain rfl : e = .returned (.bool false) := he
              have Hn := Lib.hid (show Hid (Tried vars t 1) from Tried.next0 Hc.out)
              have Hp := Lib.hid (show Wk w2 X' g vars t ∧ Ch (fun x => ¬ X' x) w0 w2 from ⟨hwk2, Hchi.out.trans hch2⟩)
              clear hch2 hwk2
              go_wp2
              go_roundw
              case rel => exact ⟨1, by omega, by go_num, rfl, Hn.out, Hp.out⟩
              case measure => simp [intOf]
            | some C =>
              have Hc := Lib.hid hc
              clear hc
              have Hdid := Lib.hid (Tried.did0 Hc.out : stepS vars t = some _)
              go_wp2_with fail
              refine (twice_any X' g vars t _ Hwi.out Hokt.out.1).mono ?_
              rintro e w2 ⟨he, hch2, hwk2⟩
              rw [Hc.out] at he hwk2
              obtain rfl : e = .returned (.bool true) := he
              have Hp := Lib.hid (show Wk w2 X' g vars (setC t (some C)) ∧ Ch (fun x => ¬ X' x) w0 w2 from ⟨hwk2, Hchi.out.trans hch2⟩)
              have Hless := Lib.hid ((way_of Hdid.out).less HEt.out)
              clear hch2 hwk2
              go_wp2
              go_roundg (2 * sizeS (setC t (some C)) + 1)
              case rel => exact ⟨_, true, rfl, ⟨Hst.out.snoc HEt.out Hdid.out, fun h => by simp at h, rfl⟩, Hp.out⟩
              case measure => have h1 := Hgk.out; have h2 := Hless.out; simp at h1; omega
          | 1, _ =>
            replace hcell : wi.cell? ⟨w.heap.size, 1, none⟩ = some (.func (.func 38) #[.pointer (some ⟨g, 0, none⟩)] #[]) := hcell
            cases hc : alwaysC t.C with
            | none =>
              have Hc := Lib.hid hc
              clear hc
              go_wp2_with fail
              refine (always_any X' g vars t _ Hwi.out Hokt.out.1 hv hcl).mono ?_
              rintro e w2 ⟨he, hch2, hwk2⟩
              rw [Hc.out] at he hwk2
              obtain rfl : e = .returned (.bool false) := he
              have Hn := Lib.hid (show Hid (Tried vars t 2) from htr.out.next1 Hc.out)
              have Hp := Lib.hid (show Wk w2 X' g vars t ∧ Ch (fun x => ¬ X' x) w0 w2 from ⟨hwk2, Hchi.out.trans hch2⟩)
              clear hch2 hwk2
              go_wp2
              go_roundw
              case rel => exact ⟨2, by omega, by go_num, rfl, Hn.out, Hp.out⟩
              case measure => simp [intOf]
            | some C =>
              have Hc := Lib.hid hc
              clear hc
              have Hdid := Lib.hid (htr.out.did1 Hc.out : stepS vars t = some _)
              go_wp2_with fail
              refine (always_any X' g vars t _ Hwi.out Hokt.out.1 hv hcl).mono ?_
              rintro e w2 ⟨he, hch2, hwk2⟩
              rw [Hc.out] at he hwk2
              obtain rfl : e = .returned (.bool true) := he
              have Hp := Lib.hid (show Wk w2 X' g vars (setC t (some C)) ∧ Ch (fun x => ¬ X' x) w0 w2 from ⟨hwk2, Hchi.out.trans hch2⟩)
              have Hless := Lib.hid ((way_of Hdid.out).less HEt.out)
              clear hch2 hwk2
              go_wp2
              go_roundg (2 * sizeS (setC t (some C)) + 1)
              case rel => exact ⟨_, true, rfl, ⟨Hst.out.snoc HEt.out Hdid.out, fun h => by simp at h, rfl⟩, Hp.out⟩
              case measure => have h1 := Hgk.out; have h2 := Hless.out; simp at h1; omega
          | 2, _ =>
            replace hcell : wi.cell? ⟨w.heap.size, 2, none⟩ = some (.func (.func 39) #[.pointer (some ⟨g, 0, none⟩)] #[]) := hcell
            cases hc : emptyB t.C with
            | false =>
              have Hc := Lib.hid hc
              clear hc
              go_wp2_with fail
              refine (empty_any X' g vars t _ Hwi.out HEt.out).mono ?_
              rintro e w2 ⟨he, hch2, hwk2⟩
              rw [Hc.out] at he
              rw [setEm, Hc.out] at hwk2
              obtain rfl : e = .returned (.bool false) := he
              have Hn := Lib.hid (show Hid (Tried vars t 3) from htr.out.next2 Hc.out)
              have Hp := Lib.hid (show Wk w2 X' g vars t ∧ Ch (fun x => ¬ X' x) w0 w2 from ⟨hwk2, Hchi.out.trans hch2⟩)
              clear hch2 hwk2
              go_wp2
              go_roundw
              case rel => exact ⟨3, by omega, by go_num, rfl, Hn.out, Hp.out⟩
              case measure => simp [intOf]
            | true =>
              have Hc := Lib.hid hc
              clear hc
              have Hdid := Lib.hid (htr.out.did2 Hc.out : stepS vars t = some _)
              go_wp2_with fail
              refine (empty_any X' g vars t _ Hwi.out HEt.out).mono ?_
              rintro e w2 ⟨he, hch2, hwk2⟩
              rw [Hc.out] at he
              obtain rfl : e = .returned (.bool true) := he
              have Hp := Lib.hid (show Wk w2 X' g vars (setEm t) ∧ Ch (fun x => ¬ X' x) w0 w2 from ⟨hwk2, Hchi.out.trans hch2⟩)
              have Hless := Lib.hid ((way_of Hdid.out).less HEt.out)
              clear hch2 hwk2
              go_wp2
              go_roundg (2 * sizeS (setEm t) + 1)
              case rel => exact ⟨_, true, rfl, ⟨Hst.out.snoc HEt.out Hdid.out, fun h => by simp at h, rfl⟩, Hp.out⟩
              case measure => have h1 := Hgk.out; have h2 := Hless.out; simp at h1; omega
          | 3, _ =>
            replace hcell : wi.cell? ⟨w.heap.size, 3, none⟩ = some (.func (.func 40) #[.pointer (some ⟨g, 0, none⟩)] #[]) := hcell
            cases hc : unitC t.C with
            | none =>
              have Hc := Lib.hid hc
              clear hc
              go_wp2_with fail
              refine (unit_any X' g vars t _ Hwi.out Hokt.out.1 hv hcl hfl hul).mono ?_
              rintro e w2 ⟨he, hch2, hwk2⟩
              rw [Hc.out] at he hwk2
              obtain rfl : e = .returned (.bool false) := he
              have Hn := Lib.hid (show Hid (Tried vars t 4) from htr.out.next3 Hc.out)
              have Hp := Lib.hid (show Wk w2 X' g vars t ∧ Ch (fun x => ¬ X' x) w0 w2 from ⟨hwk2, Hchi.out.trans hch2⟩)
              clear hch2 hwk2
              go_wp2
              go_roundw
              case rel => exact ⟨4, by omega, by go_num, rfl, Hn.out, Hp.out⟩
              case measure => simp [intOf]
            | some C =>
              have Hc := Lib.hid hc
              clear hc
              have Hdid := Lib.hid (htr.out.did3 Hc.out : stepS vars t = some _)
              go_wp2_with fail
              refine (unit_any X' g vars t _ Hwi.out Hokt.out.1 hv hcl hfl hul).mono ?_
              rintro e w2 ⟨he, hch2, hwk2⟩
              rw [Hc.out] at he hwk2
              obtain rfl : e = .returned (.bool true) := he
              have Hp := Lib.hid (show Wk w2 X' g vars (setUn t (some C)) ∧ Ch (fun x => ¬ X' x) w0 w2 from ⟨hwk2, Hchi.out.trans hch2⟩)
              have Hless := Lib.hid ((way_of Hdid.out).less HEt.out)
              clear hch2 hwk2
              go_wp2
              go_roundg (2 * sizeS (setUn t (some C)) + 1)
              case rel => exact ⟨_, true, rfl, ⟨Hst.out.snoc HEt.out Hdid.out, fun h => by simp at h, rfl⟩, Hp.out⟩
              case measure => have h1 := Hgk.out; have h2 := Hless.out; simp at h1; omega
          | 4, _ =>
            replace hcell : wi.cell? ⟨w.heap.size, 4, none⟩ = some (.func (.func 41) #[.pointer (some ⟨g, 0, none⟩)] #[]) := hcell
            cases hc : pureC vars t.C with
            | none =>
              have Hc := Lib.hid hc
              clear hc
              go_wp2_with fail
              refine (pure_any X' g vars t _ Hwi.out Hokt.out.1 hv hcl hfl).mono ?_
              rintro e w2 ⟨he, hch2, hwk2⟩
              rw [Hc.out] at he hwk2
              obtain rfl : e = .returned (.bool false) := he
              have Hn := Lib.hid (show Hid (Tried vars t 5) from htr.out.next4 Hc.out)
              have Hp := Lib.hid (show Wk w2 X' g vars t ∧ Ch (fun x => ¬ X' x) w0 w2 from ⟨hwk2, Hchi.out.trans hch2⟩)
              clear hch2 hwk2
              go_wp2
              go_roundw
              case rel => exact ⟨5, by omega, by go_num, rfl, Hn.out, Hp.out⟩
              case measure => simp [intOf]
            | some C =>
              have Hc := Lib.hid hc
              clear hc
              have Hdid := Lib.hid (htr.out.did4 Hc.out : stepS vars t = some _)
              go_wp2_with fail
              refine (pure_any X' g vars t _ Hwi.out Hokt.out.1 hv hcl hfl).mono ?_
              rintro e w2 ⟨he, hch2, hwk2⟩
              rw [Hc.out] at he hwk2
              obtain rfl : e = .returned (.bool true) := he
              have Hp := Lib.hid (show Wk w2 X' g vars (setPu t (some C)) ∧ Ch (fun x => ¬ X' x) w0 w2 from ⟨hwk2, Hchi.out.trans hch2⟩)
              have Hless := Lib.hid ((way_of Hdid.out).less HEt.out)
              clear hch2 hwk2
              go_wp2
              go_roundg (2 * sizeS (setPu t (some C)) + 1)
              case rel => exact ⟨_, true, rfl, ⟨Hst.out.snoc HEt.out Hdid.out, fun h => by simp at h, rfl⟩, Hp.out⟩
              case measure => have h1 := Hgk.out; have h2 := Hless.out; simp at h1; omega
          | 5, _ =>
            replace hcell : wi.cell? ⟨w.heap.size, 5, none⟩ = some (.func (.func 42) #[.pointer (some ⟨g, 0, none⟩)] #[]) := hcell
            cases hc : coverC t.C with
            | none =>
              have Hc := Lib.hid hc
              clear hc
              go_wp2_with fail
              refine (covered_any X' g vars t _ Hwi.out hcl).mono ?_
              rintro e w2 ⟨he, hch2, hwk2⟩
              rw [Hc.out] at he hwk2
              obtain rfl : e = .returned (.bool false) := he
              have Hn := Lib.hid (show Hid (Tried vars t 6) from htr.out.next5 Hc.out)
              have Hp := Lib.hid (show Wk w2 X' g vars t ∧ Ch (fun x => ¬ X' x) w0 w2 from ⟨hwk2, Hchi.out.trans hch2⟩)
              clear hch2 hwk2
              go_wp2
              go_roundw
              case rel => exact ⟨6, by omega, by go_num, rfl, Hn.out, Hp.out⟩
              case measure => simp [intOf]
            | some C =>
              have Hc := Lib.hid hc
              clear hc
              have Hdid := Lib.hid (htr.out.did5 Hc.out : stepS vars t = some _)
              go_wp2_with fail
              refine (covered_any X' g vars t _ Hwi.out hcl).mono ?_
              rintro e w2 ⟨he, hch2, hwk2⟩
              rw [Hc.out] at he hwk2
              obtain rfl : e = .returned (.bool true) := he
              have Hp := Lib.hid (show Wk w2 X' g vars (setC t (some C)) ∧ Ch (fun x => ¬ X' x) w0 w2 from ⟨hwk2, Hchi.out.trans hch2⟩)
              have Hless := Lib.hid ((way_of Hdid.out).less HEt.out)
              clear hch2 hwk2
              go_wp2
              go_roundg (2 * sizeS (setC t (some C)) + 1)
              case rel => exact ⟨_, true, rfl, ⟨Hst.out.snoc HEt.out Hdid.out, fun h => by simp at h, rfl⟩, Hp.out⟩
              case measure => have h1 := Hgk.out; have h2 := Hless.out; simp at h1; omega
          | 6, _ =>
            clear hcell
            have Hn := Lib.hid htr.out.none_
            have Hp := Lib.hid (show Wk wi X' g vars t ∧ Ch (fun x => ¬ X' x) w0 wi from ⟨Hwi.out, Hchi.out⟩)
            go_wp2
            go_roundg (2 * sizeS t)
            case rel => exact ⟨t, false, rfl, ⟨Hst.out, fun _ => Hn.out, by simp⟩, Hp.out⟩
            case measure => have h1 := Hgk.out; simp at h1; omega
          | n + 7, hj => exact absurd hj (by omega)
end Go.Proofs.Ytdofiipckcfopaa
