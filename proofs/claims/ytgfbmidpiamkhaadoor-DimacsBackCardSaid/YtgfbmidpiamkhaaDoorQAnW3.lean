/- dimacs.ParseAnswer's closure: the answer of all lines. -/
import Derived.Test.YtgfbmidpiamkhaaDoorQAnW2
import Derived.Test.YtgfbmidpiamkhaaDoorQDiW8
namespace Go.Proofs.YtgfbmidpiamkhaaDoor
open Go.RowKit
open C01 D28

/-- the answer and the mark in memory -/
def AAt (w : World) (B xb hb : Nat) (s : AS) : Prop :=
  ∃ v, w.heap[xb]? = some (.cells #[.int .i64 (s.e : Nat), v, .slice none 0 0, .int .i64 0] 47 (0, 0)) ∧ w.heap[hb]? = some (.cells #[.bool s.t.isSome] 4 (0, 0)) ∧ RBools w (fun b => B ≤ b ∧ b < w.heap.size) v (s.t.getD [])
def keepX (xb hb : Nat) (b : Nat) (_ : Obj) : Prop := b ≠ xb ∧ b ≠ hb
theorem RBools.kp {p : Nat → Obj → Prop} {w w' : World} {S S' : Nat → Prop} {v : Value} {l : List Bool} (h : RBools w S v l) (hk : Kp p w w') (hp : ∀ b c t f, S b → p b (.cells c t f)) (hS : ∀ b, S b → S' b) : RBools w' S' v l := by
  obtain ⟨A, c, hv, h1, h2, h3⟩ := h
  refine ⟨A, c, hv, h1, h2, fun hpos => ?_⟩
  obtain ⟨b, off, e, hb, hc⟩ := h3 hpos
  refine ⟨b, off, e, hS b hb, fun k hkk => ?_⟩
  obtain ⟨u, hu, hR⟩ := hc k hkk
  exact ⟨u, cell_kp hu hk fun c t f _ => hp b c t f hb, hR⟩
theorem AAt.kp {p : Nat → Obj → Prop} {w w' : World} {B xb hb : Nat} {s : AS} (h : AAt w B xb hb s) (hk : Kp p w w') (hp : ∀ b c t f, p b (.cells c t f)) : AAt w' B xb hb s := by
  obtain ⟨v, h1, h2, h3⟩ := h
  exact ⟨v, hk.same _ _ h1 (hp _ _ _ _), hk.same _ _ h2 (hp _ _ _ _), h3.kp hk (fun b c t f _ => hp b c t f) fun b hb => ⟨hb.1, Nat.lt_of_lt_of_le hb.2 hk.size⟩⟩
def PAPost (B xb hb : Nat) (a : Bs) (w : World) (e : Ending) (w' : World) : Prop :=
  Kp (keepX xb hb) w w' ∧ match aR a with
  | (some (E, T), _) => e = .returned (.tuple #[]) ∧ ∃ v, w'.heap[xb]? = some (.cells #[.int .i64 (E : Nat), v, .slice none 0 0, .int .i64 0] 47 (0, 0)) ∧ RBools w' (fun b => B ≤ b ∧ b < w'.heap.size) v T
  | (none, n) => e = .panicked (flt 1 (n : Nat)) ∧ ∃ (E : Nat) (v : Value), w'.heap[xb]? = some (.cells #[.int .i64 (E : Nat), v, .slice none 0 0, .int .i64 0] 47 (0, 0))
def AI (B xb hb : Nat) (a : Bs) (w0 : World) (k : Nat) (w : World) : Prop :=
  Kp (keepX xb hb) w0 w ∧ ∃ s, linesA .start ((linesOf a).take k) = (some s, 0) ∧ AAt w B xb hb s
theorem AI.kp {B xb hb n : Nat} {a : Bs} {w0 A A' : World} {k : Nat} (h : AI B xb hb a w0 k A) (hk : Kp (cellsOr n) A A') (hn : w0.heap.size ≤ n) : AI B xb hb a w0 k A' := by
  obtain ⟨h1, s, h2, h3⟩ := h
  exact ⟨h1.step hk hn, s, h2, h3.kp hk fun _ _ _ _ => trivial⟩
def AIp (xb hb : Nat) (a : Bs) (w0 : World) (c : List PanicEntry) (w : World) : Prop :=
  Kp (keepX xb hb) w0 w ∧ (∃ n : Nat, linesA .start (linesOf a) = (none, n) ∧ c = flt 1 (n : Nat)) ∧ ∃ (E : Nat) (v : Value), w.heap[xb]? = some (.cells #[.int .i64 (E : Nat), v, .slice none 0 0, .int .i64 0] 47 (0, 0))
theorem keepX_noneOr {w w' : World} {xb hb : Nat} {c1 c2 : Array Value} {f1 f2 : Nat × Nat} (h1 : w.heap[xb]? = some (.cells c1 47 f1)) (h2 : w.heap[hb]? = some (.cells c2 4 f2)) (h : Kp (keepX xb hb) w w') : Kp (noneOr 9) w w' :=
  ⟨h.os, h.tape, h.output, h.size, fun b o hb' hp => h.same b o hb' ⟨fun e => by
    subst e; rw [h1] at hb'; cases hb'; exact absurd (show 47 = 9 from hp) (by decide), fun e => by
    subst e; rw [h2] at hb'; cases hb'; exact absurd (show 4 = 9 from hp) (by decide)⟩⟩
attribute [local go_sem] Oper.semAt_some
set_option maxRecDepth 100000 in
set_option maxHeartbeats 8000000 in
theorem PA1_any (a : Bs) (m : Int) (sb xb hb : Nat) (w : World) (hm : w.cell? ⟨0, 0, none⟩ = some (.int .i64 m)) (hs : w.cell? ⟨sb, 0, none⟩ = some (sv a)) (hx : w.heap[xb]? = some (.cells #[.int .i64 0, .slice none 0 0, .slice none 0 0, .int .i64 0] 47 (0, 0)))
    (hh : w.heap[hb]? = some (.cells #[.bool false] 4 (0, 0))) (hsx : sb ≠ xb) (hsh : sb ≠ hb) (hxh : xb ≠ hb) (ha : a.length ≤ 900000) :
    Calls Tryd.prog 40 #[.pointer (some ⟨sb, 0, none⟩), .pointer (some ⟨xb, 0, none⟩), .pointer (some ⟨hb, 0, none⟩)] w (PAPost w.heap.size xb hb a w) := by
  refine calls_of_wpB Tryd.func40 rfl ?_
  simp only [Tryd.ntmps40, List.size_toArray, List.length_cons, List.length_nil, Nat.reduceAdd, Nat.reduceSub, Array.replicate_succ, Array.replicate_zero, List.push_toArray, List.append_toArray, List.nil_append, List.cons_append]
  refine wpB_seq (wpB_seq (wpB_of_wp ?_))
  have HL := Lib.hid (fun w => lines_any a w)
  go_wp2_with (go_at_call 27; refine (HL.out _).mono ?_; rintro e w1 ⟨rfl, rfl⟩)
  obtain ⟨w1, hw1⟩ : ∃ w1, w1 = w.alloc (.cells #[sv a] 9) := ⟨_, rfl⟩
  have hb1 : Below w.heap.size w w1 := by rw [hw1]; exact below_alloc _ _
  have hz1 : w1.heap.size = w.heap.size + 1 := by rw [hw1]; simp
  have hcb : w1.cell? ⟨w.heap.size, 0, none⟩ = some (sv a) := by rw [hw1]; exact box_cell (Below.refl _ _) 0
  have hm1 : w1.cell? ⟨0, 0, none⟩ = some (.int .i64 m) := (hb1.cell (p := ⟨_, _, _⟩) (World.block_lt_of_cell? w _ hm)).trans hm
  have hxlt := (Array.getElem?_eq_some_iff.1 hx).1
  have hhlt := (Array.getElem?_eq_some_iff.1 hh).1
  have hx1 : w1.heap[xb]? = _ := (hb1.block xb hxlt).trans hx
  have hh1 : w1.heap[hb]? = _ := (hb1.block hb hhlt).trans hh
  rw [← hw1]
  clear hw1
  refine wpB_block (wpB_range (t := 9) (n := 9) Tryd.func40 rfl (enters_of Tryd.func46 (by kernel_rfl) rfl) (lines1_gives a m w.heap.size w1 hm1 hcb (by omega)) (fun k W args h => OkL.size h) (fun k A A' args h hk => OkL.kp h hk)
    (AI w.heap.size xb hb a w) (AIp xb hb a w) (fun k A A' h hk => AI.kp h hk (by omega)) ?start (fun args => { tmps := #[.pointer (some ⟨sb, 0, none⟩), .pointer (some ⟨xb, 0, none⟩), .pointer (some ⟨hb, 0, none⟩), args.getD 0 undef, args.getD 1 undef, sv a, .func (.func 46) #[] #[.pointer (some ⟨w.heap.size, 0, none⟩)], args.getD 0 undef, args.getD 1 undef, undef, undef, undef, undef, undef, undef, undef, undef, undef, undef, undef, undef, undef, undef, undef, undef, undef, undef, undef, undef, undef, undef, undef, undef, undef, undef, undef, undef, undef, undef, undef, undef, undef, undef, undef, undef, undef], defers := [] }) ?assign ?body ?done ?panic)
  case start =>
    exact ⟨Kp.of_below hb1, .start, by simp [linesA], _, hx1, hh1, RSl.nil_ _ _ _⟩
  case assign =>
    intro l args W K hsz hK
    obtain ⟨x, y, rfl⟩ := arr2 hsz
    gi_wp2
    exact hK
  case body =>
    rintro l k W args hk hPI ⟨hk', v, rfl, hv⟩
    obtain ⟨hK0, ⟨E, t⟩, hgl, vt, hxW, hhW, hrd⟩ := hPI
    dsimp only at hxW hhW hrd
    have Hsucc := Lib.hid (linesA_succ hk hgl)
    have hmem := lines_words (List.getElem_mem hk)
    have HpreL := Lib.hid (fun (n : Nat) => linesA_bad (L := linesOf a) (s := .start) (k := k + 1) (n := n))
    obtain ⟨n, hn⟩ : ∃ n, n = (linesOf a)[k].1 := ⟨_, rfl⟩
    obtain ⟨ws, hws⟩ : ∃ ws, ws = (linesOf a)[k].2 := ⟨_, rfl⟩
    rw [← hws] at Hsucc hmem hv
    rw [← hn] at Hsucc ⊢
    clear hws hn hk'
    have Hv := Lib.hid hv
    have HK0 := Lib.hid hK0
    have HX := Lib.hid hxW
    have HH := Lib.hid hhW
    have HR := Lib.hid hrd
    have hxlW := (Array.getElem?_eq_some_iff.1 hxW).1
    have hhlW := (Array.getElem?_eq_some_iff.1 hhW).1
    have hBW := HK0.out.size
    have HBad := Lib.hid (show astep ⟨E, t⟩ ws = none → ∀ w', Below W.heap.size W w' → Kp (noneOr 9) W w' ∧ AIp xb hb a w (flt 1 (n : Nat)) w' from fun h w' hb' => by
      have h1 := Hsucc.out
      rw [h] at h1
      exact ⟨Kp.of_below hb', HK0.out.trans (Kp.of_below hb'), ⟨n, HpreL.out n h1, rfl⟩, E, vt, (hb'.block xb hxlW).trans HX.out⟩)
    have HGood := Lib.hid (show ∀ s', astep ⟨E, t⟩ ws = some s' → ∀ w', Kp (keepX xb hb) W w' → AAt w' w.heap.size xb hb s' → Kp (noneOr 9) W w' ∧ AI w.heap.size xb hb a w (k + 1) w' from fun s' h w' hk' ha' => by
      have h1 := Hsucc.out
      rw [h] at h1
      exact ⟨keepX_noneOr HX.out HH.out hk', HK0.out.trans hk', s', h1, ha'⟩)
    have HEnd := Lib.hid (end_any ws v n W hv)
    have HTru := Lib.hid (truths_any ws v n W hv (by omega))
    have HF := Lib.hid (fun w => fail_any 1 n w)
    have c0 : W.cell? ⟨xb, 0, none⟩ = some (.int .i64 (E : Nat)) := cell_of_row _ _ 0 _ _ _ hxW
    have c1 : W.cell? ⟨xb, 1, none⟩ = some vt := cell_of_row _ _ 1 _ _ _ hxW
    have c2 : W.cell? ⟨hb, 0, none⟩ = some (.bool t.isSome) := cell_of_row _ _ 0 _ _ _ hhW
    have f0 := frozen_of_row _ _ 0 _ _ hxW
    have f1 := frozen_of_row _ _ 1 _ _ hxW
    have f2 := frozen_of_row _ _ 0 _ _ hhW
    clear hK0 hgl hm hs hx hh hm1 hx1 hh1 hcb hxW hhW hrd hv
    simp only [Array.getD_eq_getD_getElem?, List.getElem?_toArray, List.getElem?_cons_zero, List.getElem?_cons_succ, Option.getD_some]
    by_cases hE : E = 0
    · subst hE
      by_cases he : endW ws = 0
      · have HP := Lib.hid (HBad.out (by simp [astep, he]) W (Below.refl _ _))
        have HE := Lib.hid (HEnd.out.mono (R' := fun e w' => e = .panicked (flt 1 (n : Nat)) ∧ w' = W) (fun e w' h => by unfold EndPost at h; rw [if_pos he] at h; exact h))
        clear he
        gi_wp2_with (refine ⟨trivial, ?_⟩; gi_at_call 41; refine (CallsIn.inRound l (callsIn_wide.2 HE.out)).mono ?_; rintro e w2 ⟨rfl, rfl⟩)
        exact ⟨rfl, HP.out⟩
      · have HE := Lib.hid (HEnd.out.mono (R' := fun e w' => e = .returned (.int .i64 (endW ws : Nat)) ∧ w' = W) (fun e w' h => by unfold EndPost at h; rw [if_neg he] at h; exact h))
        have HP := Lib.hid (HGood.out ⟨endW ws, t⟩ (by simp [astep, he]) (W.setCell ⟨xb, 0, none⟩ (.int .i64 (endW ws : Nat))) (Kp.setCell _ _ _ fun _ _ h => h.1 rfl)
          ⟨vt, heap_setCell_same _ xb 0 _ _ _ HX.out, (Below.heap_setCell _ ⟨xb, 0, none⟩ _ hb (fun e => hxh e.symm)).trans HH.out, HR.out.kp (Kp.setCell (p := fun b _ => w.heap.size ≤ b) _ _ _ fun _ _ h => by have h : w.heap.size ≤ xb := h; omega) (fun b c t f h => h.1) (fun b h => ⟨h.1, by simpa using h.2⟩)⟩)
        clear he
        gi_wp2_with (refine ⟨trivial, ?_⟩; gi_at_call 41; refine (CallsIn.inRound l (callsIn_wide.2 HE.out)).mono ?_; rintro e w2 ⟨rfl, rfl⟩)
        exact HP.out
    have hE0 : ((E : Int) == 0) = false := by rw [beq_eq_false_iff_ne]; omega
    by_cases hE1 : E = 1
    · subst hE1
      cases t with
      | none =>
        cases htr : truthsW ws with
        | none =>
          have HP := Lib.hid (HBad.out (by simp [astep, htr]))
          have HT := Lib.hid (HTru.out.mono (R' := fun e w' => e = .panicked (flt 1 (n : Nat)) ∧ Below W.heap.size W w') (fun e w' h => by obtain ⟨h1, h2⟩ := h; rw [htr] at h2; exact ⟨h2, h1⟩))
          clear htr
          gi_wp2_with (refine ⟨trivial, ?_⟩; gi_at_call 42; refine (CallsIn.inRound l (callsIn_wide.2 HT.out)).mono ?_; rintro e w2 ⟨rfl, hb2⟩)
          exact ⟨rfl, HP.out _ hb2⟩
        | some T =>
          have HT := Lib.hid (HTru.out.mono (R' := fun e w' => ∃ v, e = .returned v ∧ RBools w' (fun b => W.heap.size ≤ b ∧ b < w'.heap.size) v T ∧ Below W.heap.size W w') (fun e w' h => by obtain ⟨h1, h2⟩ := h; rw [htr] at h2; obtain ⟨v, e, hr⟩ := h2; exact ⟨v, e, hr, h1⟩))
          have HP := Lib.hid (show ∀ vT w2, RBools w2 (fun b => W.heap.size ≤ b ∧ b < w2.heap.size) vT T → Below W.heap.size W w2 → w2.cell? ⟨xb, 1, none⟩ = some vt ∧ w2.frozen? ⟨xb, 1, none⟩ = false ∧ w2.cell? ⟨hb, 0, none⟩ = some (.bool false) ∧ w2.frozen? ⟨hb, 0, none⟩ = false ∧ Hid (Kp (noneOr 9) W ((w2.setCell ⟨xb, 1, none⟩ vT).setCell ⟨hb, 0, none⟩ (.bool true)) ∧ AI w.heap.size xb hb a w (k + 1) ((w2.setCell ⟨xb, 1, none⟩ vT).setCell ⟨hb, 0, none⟩ (.bool true))) from fun vT w2 hr hb2 => by
            have hx2 := (hb2.block xb hxlW).trans HX.out
            have hh2 := (hb2.block hb hhlW).trans HH.out
            refine ⟨cell_of_row _ _ 1 _ _ _ hx2, frozen_of_row _ _ 1 _ _ hx2, cell_of_row _ _ 0 _ _ _ hh2, frozen_of_row _ _ 0 _ _ hh2, Lib.hid (HGood.out ⟨1, some T⟩ (by simp [astep, htr]) _ (((Kp.of_below hb2).trans (Kp.setCell _ _ _ fun _ _ h => h.1 rfl)).trans (Kp.setCell _ _ _ fun _ _ h => h.2 rfl)) ⟨vT, ?_, ?_, ?_⟩)⟩
            · exact (Below.heap_setCell _ ⟨hb, 0, none⟩ _ xb hxh).trans (heap_setCell_same _ xb 1 _ _ _ hx2)
            · exact heap_setCell_same _ hb 0 _ _ _ ((Below.heap_setCell _ ⟨xb, 1, none⟩ _ hb (fun e => hxh e.symm)).trans hh2)
            · exact hr.kp ((Kp.setCell (p := fun b _ => W.heap.size ≤ b) _ _ _ fun _ _ h => by have h : W.heap.size ≤ xb := h; omega).trans (Kp.setCell (p := fun b _ => W.heap.size ≤ b) _ _ _ fun _ _ h => by have h : W.heap.size ≤ hb := h; omega)) (fun b c t f h => h.1) (fun b h => ⟨Nat.le_trans hBW h.1, by simpa using h.2⟩))
          clear htr
          gi_wp2_with (refine ⟨trivial, ?_⟩; gi_at_call 42; refine (CallsIn.inRound l (callsIn_wide.2 HT.out)).mono ?_; rintro e w2 ⟨vT, rfl, hr, hb2⟩; obtain ⟨A5, c5, rfl, -, -⟩ := RSl.open_ hr; obtain ⟨q1, q2, q3, q4, HQ⟩ := HP.out _ w2 hr hb2; clear hr hb2)
          exact HQ.out
      | some T =>
        have HP := Lib.hid (HBad.out (by simp [astep]) W (Below.refl _ _))
        gi_wp2_with (refine ⟨trivial, ?_⟩; gi_at_call 31; refine (CallsIn.inRound l (callsIn_wide.2 (HF.out _))).mono ?_; rintro e w2 ⟨rfl, rfl⟩)
        exact ⟨rfl, HP.out⟩
    have hE1' : ((E : Int) == 1) = false := by rw [beq_eq_false_iff_ne]; omega
    have HP := Lib.hid (HBad.out (by simp [astep, hE, hE1]) W (Below.refl _ _))
    clear hE hE1
    gi_wp2_with (refine ⟨trivial, ?_⟩; gi_at_call 31; refine (CallsIn.inRound l (callsIn_wide.2 (HF.out _))).mono ?_; rintro e w2 ⟨rfl, rfl⟩)
    exact ⟨rfl, HP.out⟩
  case done =>
    rintro D W ⟨hK, ⟨E, t⟩, hgl, vt, hxW, hhW, hrd⟩ hD hDl
    rw [List.take_length] at hgl
    dsimp only at hxW hhW hrd
    have hsW := cell_kp hs hK fun c t f hcf => ⟨hsx, hsh⟩
    have c0 : W.cell? ⟨xb, 0, none⟩ = some (.int .i64 (E : Nat)) := cell_of_row _ _ 0 _ _ _ hxW
    have c2 : W.cell? ⟨hb, 0, none⟩ = some (.bool t.isSome) := cell_of_row _ _ 0 _ _ _ hhW
    have HPm := Lib.hid (show ∀ o, Kp (keepX xb hb) w (W.putObj D o) ∧ (W.putObj D o).heap[xb]? = some (.cells #[.int .i64 (E : Nat), vt, .slice none 0 0, .int .i64 0] 47 (0, 0)) ∧ RBools (W.putObj D o) (fun b => w.heap.size ≤ b ∧ b < (W.putObj D o).heap.size) vt (t.getD []) from fun o => by
      refine ⟨hK.putHi (by omega), (World.putObj_heap_other (fun e => by rw [e, hD] at hxW; cases hxW)).trans hxW, ?_⟩
      exact hrd.kp (Kp.putObj (p := fun b x => ∃ c t f, x = .cells c t f) W D o fun x hx hc => by rw [hD] at hx; cases hx; obtain ⟨_, _, _, h⟩ := hc; cases h) (fun b c t f _ => ⟨c, t, f, rfl⟩) (fun b h => ⟨h.1, by rw [World.putObj_size]; exact h.2⟩))
    have HLn := Lib.hid hgl
    have HD := Lib.hid hD
    have HBh := Lib.hid (fun w => behind_any a w (by omega))
    have HF := Lib.hid (fun w => fail_any 1 (endOf a) w)
    clear hK hgl hm hx hh hm1 hx1 hh1 hcb hD hxW hhW hrd
    refine wpB_of_wp ?_
    by_cases hE : E = 0
    · subst hE
      have HA := Lib.hid (show aR a = (none, endOf a) by unfold aR; rw [HLn.out]; exact if_pos (.inl rfl))
      go_wp2_with (first
        | (go_at_call 32; refine (HBh.out _).mono ?_; rintro e w2 ⟨rfl, rfl⟩)
        | (go_at_call 31; refine (HF.out _).mono ?_; rintro e w2 ⟨rfl, rfl⟩))
      refine ⟨by simp, .inl ⟨_, _, rfl, run_takeDeferred HD.out, ?_⟩⟩
      exact ⟨(HPm.out _).1, by rw [HA.out]; exact ⟨rfl, _, _, (HPm.out _).2.1⟩⟩
    have hE0 : ((E : Int) == 0) = false := by rw [beq_eq_false_iff_ne]; omega
    by_cases hE1 : E = 1
    · subst hE1
      cases t with
      | none =>
        have HA := Lib.hid (show aR a = (none, endOf a) by unfold aR; rw [HLn.out]; exact if_pos (.inr ⟨rfl, rfl⟩))
        go_wp2_with (first
          | (go_at_call 32; refine (HBh.out _).mono ?_; rintro e w2 ⟨rfl, rfl⟩)
          | (go_at_call 31; refine (HF.out _).mono ?_; rintro e w2 ⟨rfl, rfl⟩))
        refine ⟨by simp, .inl ⟨_, _, rfl, run_takeDeferred HD.out, ?_⟩⟩
        exact ⟨(HPm.out _).1, by rw [HA.out]; exact ⟨rfl, _, _, (HPm.out _).2.1⟩⟩
      | some T =>
        have HA := Lib.hid (show aR a = (some (1, T), 0) by unfold aR; rw [HLn.out]; exact if_neg (by unfold openA; simp))
        go_wp2
        refine ⟨by simp, .inl ⟨_, _, rfl, run_takeDeferred HD.out, ?_⟩⟩
        exact ⟨.tuple #[], by simp [results, Tryd.results40], (HPm.out _).1, by rw [HA.out]; exact ⟨rfl, vt, (HPm.out _).2⟩⟩
    have hE1' : ((E : Int) == 1) = false := by rw [beq_eq_false_iff_ne]; omega
    have HA := Lib.hid (show aR a = (some (E, t.getD []), 0) by unfold aR; rw [HLn.out]; exact if_neg (by unfold openA; simp [hE, hE1]))
    clear hE hE1
    go_wp2
    refine ⟨by simp, .inl ⟨_, _, rfl, run_takeDeferred HD.out, ?_⟩⟩
    exact ⟨.tuple #[], by simp [results, Tryd.results40], (HPm.out _).1, by rw [HA.out]; exact ⟨rfl, vt, (HPm.out _).2⟩⟩
  case panic =>
    rintro D c W ⟨hK, hc⟩ hD hDl
    refine ⟨by simp, .inl ⟨_, _, rfl, run_takeDeferred hD, ?_⟩⟩
    obtain ⟨⟨n, hl, rfl⟩, E, v, hx2⟩ := hc
    exact ⟨hK.putHi (by omega), by unfold aR; rw [hl]; exact ⟨rfl, E, v, (World.putObj_heap_other (fun e => by rw [e, hD] at hx2; cases hx2)).trans hx2⟩⟩
end Go.Proofs.YtgfbmidpiamkhaaDoor
