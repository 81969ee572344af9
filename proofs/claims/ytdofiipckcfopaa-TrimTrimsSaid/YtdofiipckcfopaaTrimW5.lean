/- What the steps of the layer trim compute: unit. -/
import Derived.Test.YtdofiipckcfopaaTrimW4
namespace Go.Proofs.Ytdofiipckcfopaa
open Go.RowKit

def setUn (s : TrS) (o : Option Int) : TrS := match o with | some n => { fixS s n with U := s.U ++ [n] } | none => s
def UPost (X : Nat → Prop) (g vars : Nat) (s : TrS) (w : World) (e : Ending) (w' : World) : Prop := e = .returned (.bool (unitC s.C).isSome) ∧ Ch (fun b => ¬ X b) w w' ∧ Wk w' X g vars (setUn s (unitC s.C))
set_option maxHeartbeats 400000 in
theorem unitFn_any (s : Value) (l : List Int) (w : World) {B : Nat} (hs : RInts w (Lt B) s l) :
    Calls Try.prog 60 #[s] w fun e w' => e = .returned (.bool (decide (l.length = 1))) ∧ Below w.heap.size w w' := by
  obtain ⟨A, c, rfl, hm, _⟩ := hs.open_
  by_cases h : l.length = 1
  · have hz : ((l.length : Int) == 1) = true := by simp [h]
    have Hh := Lib.hid h; clear h
    go_enter Try.func60, Try.ntmps60
    go_wp2
    go_ret
    exact ⟨ret_bool (by simp [Hh.out]), Below.refl _ _⟩
  · have hz : ((l.length : Int) == 1) = false := by simp; omega
    have Hh := Lib.hid h; clear h
    go_enter Try.func60, Try.ntmps60
    go_wp2
    go_ret
    exact ⟨ret_bool (by simp [Hh.out]), Below.refl _ _⟩
theorem callFunc_unit : ∀ (args : Array Value) (w : World), (callFunc 60 args).run Try.prog w = .ok (.enter 60 args) w := callFunc_run Try.func60 (by kernel_rfl) (by kernel_rfl)
theorem WkAt.step {w w' : World} {X : Nat → Prop} {g vars : Nat} {C : Cls} {F U : List Int} {E : Bool} {vC vF vU : Value} {cs : List Value} (h : WkAt w X g vars C F U E vC vF vU cs) {D : Nat → Prop} (hc : Ch D w w') (hd : ∀ b, D b → FP g vC vF vU b) : Ch (fun b => ¬ X b) w w' :=
  hc.imp fun i _ d => h.xs i (hd i d)
set_option maxRecDepth 100000 in
set_option maxHeartbeats 4000000 in
theorem unit_any (X : Nat → Prop) (g vars : Nat) (s : TrS) (w : World) (hw : Wk w X g vars s) (hok : clsOk vars s.C) (hv : vars ≤ 1024) (hcl : s.C.length ≤ 1000000) (hfl : s.F.length ≤ 1000000) (hul : s.U.length ≤ 1000000) :
    Calls Try.prog 40 #[.pointer (some ⟨g, 0, none⟩)] w (UPost X g vars s w) := by
  obtain ⟨vC, vF, vU, cs, h⟩ := hw
  obtain ⟨_, hc1, _, _, _⟩ := h.cell
  obtain ⟨A, c, rfl, hm, hat⟩ := h.reads.open_
  obtain ⟨AU, kU, rfl⟩ := own_shape h.oU
  have H := Lib.hid h
  have Hat := Lib.hid hat
  have hF : ∀ i, i < s.C.length → decide ((atC s.C i).length = 1) = false → unAt s.C i = none := fun i _ hp => by rw [unAt, if_neg (by simpa using hp)]
  have Hf := Lib.hid (fun c (_ : c ∈ s.C) (w' : World) (u : Value) (hu : RInts w' (Lt w'.heap.size) u c) => unitFn_any u c w' hu)
  rcases idxL_cases (fun c : List Int => decide (c.length = 1)) s.C with ⟨hi, hx⟩ | ⟨i, hi, hx, hil, hp⟩
  · have Hk := Lib.hid (show unitC s.C = none from firstN_idx_none (p := fun c : List Int => decide (c.length = 1)) hF hx)
    have Hi := Lib.hid hi
    clear h hat hi hx hF
    go_enter Try.func40, Try.ntmps40
    go_wp2_with (go_at_call 55; refine (IndexFuncL_any _ (fun c : List Int => decide (c.length = 1)) _ s.C _ H.out.reads callFunc_unit Hf.out).mono ?_; rintro e w1 ⟨rfl, hb1⟩; rw [Hi.out])
    go_ret
    refine ⟨by rw [Hk.out]; rfl, ch_refl' hb1, ?_⟩
    rw [Hk.out]
    exact (H.out.keep hb1).wk
  · have hp1 : s.C[i].length = 1 := by simpa using hp
    obtain ⟨n, hn⟩ := List.length_eq_one_iff.1 hp1
    have Hk := Lib.hid (show unitC s.C = some n from firstN_idx_some (p := fun c : List Int => decide (c.length = 1)) hF hx (by rw [unAt, atC_eq hil, if_pos hp1, hn]; rfl))
    obtain ⟨bi, offi, ui, rfl, hbi, hcelli, hui⟩ := hat.lt_ hil
    obtain ⟨A2, c2, rfl, hm2, hat2⟩ := hui.open_
    obtain ⟨b0, off0, u0, rfl, hb0, hcell0, hu0⟩ := hat2.lt_ (k := 0) (by omega)
    obtain rfl := hu0
    have hlo : litOk vars n := (hok _ (List.getElem_mem hil)).2 n (by rw [hn]; simp)
    have hl1 : -1024 ≤ n := by obtain ⟨_, a, b⟩ := hlo; omega
    have hl2 : n ≤ 1024 := by obtain ⟨_, a, b⟩ := hlo; omega
    have hl3 : 0 < s.C[i].length := by omega
    have hn0 : s.C[i][0]'(by omega) = n := by simp [hn]
    rw [hn0, Nat.add_zero] at hcell0
    have Hi := Lib.hid hi
    have hcF := H.out.ltC
    clear h hat hi hx hF hp hp1 hn hat2 hui hlo hn0
    go_enter Try.func40, Try.ntmps40
    go_wp2_with (first
      | (go_at_call 55
         refine (IndexFuncL_any _ (fun c : List Int => decide (c.length = 1)) _ s.C _ H.out.reads callFunc_unit Hf.out).mono ?_
         rintro e w1 ⟨rfl, hb1⟩
         rw [Hi.out]
         have H1 := Lib.hid (H.out.keep hb1)
         obtain ⟨_, hd1, _, hd3, _⟩ := H1.out.cell
         have hdf := H1.out.frozen 3
         have he1 := (hb1.cell (p := ⟨bi, offi + i, none⟩) hbi).trans hcelli
         have he2 := (hb1.cell (p := ⟨b0, off0, none⟩) hb0).trans hcell0
         have hgl := H1.out.lt
         have Hch := Lib.hid (ch_refl' (D := fun b => ¬ X b) hb1)
         clear hb1)
      | (at_builtin
         go_must (refine wpList_push rfl _ _ _ rfl eInt (v := .slice AU s.U.length kU) rfl (H1.out.oU.alloc _) w1.heap.size (.int .i64 n) rfl (by simp [go_sem]) rfl (by omega) (by simp; omega) ?_)
         intro v3 w3 ho3 hg3 hat3
         obtain ⟨A3, k3, rfl⟩ := own_shape ho3
         go_must (have HK := Lib.hid (H1.out.keep (below_alloc w1 (.cells #[.int .i64 n] 3))))
         go_must (have hb3 := HK.out.midg hg3 (fun e => by have := HK.out.gne.2.2 g e; omega))
         go_must (have hf1 : w3.cell? ⟨g, 3, none⟩ = some (.slice AU s.U.length kU) := (by rw [cell_of_row _ _ 3 _ _ _ hb3]; rfl))
         go_must (have hf2 : w3.frozen? ⟨g, 3, none⟩ = false := frozen_of_row w3 g 3 _ _ hb3)
         go_must (have HP := Lib.hid (HK.out.pushU ho3 hg3 hat3))
         go_must (have Hch3 := Lib.hid (Hch.out.trans ((ch_refl' (below_alloc w1 (.cells #[.int .i64 n] 3))).trans ((HK.out.step (ch_grown hg3) fun b e => .inr (.inr (.inr e))).trans ((ch_set w3 g 3 (.slice A3 (s.U.length + 1) k3)).imp fun i _ e => HK.out.xs i (.inl e))))))
         clear hb3)
      | (go_at_call 61
         refine (fix_any X g vars ⟨s.C, s.F, s.U ++ [n], s.E⟩ n _ HP.out.wk hok hl1 hl2 hcl hfl).mono ?_
         rintro e w5 ⟨rfl, hch5, hwk5⟩))
    go_ret
    refine ⟨by rw [Hk.out]; rfl, Hch3.out.trans hch5, ?_⟩
    rw [Hk.out]
    exact hwk5
end Go.Proofs.Ytdofiipckcfopaa
