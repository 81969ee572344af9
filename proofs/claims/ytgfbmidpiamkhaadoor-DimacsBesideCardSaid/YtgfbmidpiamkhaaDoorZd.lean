/- A range over a function whose rounds may end in a panic; what a round is handed may lie in memory. No function of the program is in sight. / dimacs.lines: the iterator over the lines that count. / dimacs.parse: a number. / .. -/
import Derived.RangeFuncNested
import Derived.RangeFuncCalls
import Derived.RangeFuncLeaves
import Derived.RangeFuncBound
import Derived.Shelf.Abstract
import Derived.Shelf.RegionOpen
import Derived.OwnWalkIn
import Derived.TacticsInMore
import Derived.LoopNIn
import Derived.LoopIn
import Derived.Test.YtgfbmidpiamkhaaDoorZa
import Derived.Test.YtgfbmidpiamkhaaDoorZb
namespace Go.Proofs.YtgfbmidpiamkhaaDoor
open Go.RowKit

/-- The blocks of which p speaks lie as they lay. -/
structure Kp (p : Nat → Obj → Prop) (W W' : World) : Prop where
  os : W'.os = W.os
  tape : W'.tape = W.tape
  output : W'.output = W.output
  size : W.heap.size ≤ W'.heap.size
  same : ∀ b o, W.heap[b]? = some o → p b o → W'.heap[b]? = some o
theorem Kp.refl (p : Nat → Obj → Prop) (W : World) : Kp p W W := ⟨rfl, rfl, rfl, Nat.le_refl _, fun _ _ h _ => h⟩
theorem Kp.trans {p : Nat → Obj → Prop} {A B C : World} (h : Kp p A B) (k : Kp p B C) : Kp p A C :=
  ⟨k.os.trans h.os, k.tape.trans h.tape, k.output.trans h.output, Nat.le_trans h.size k.size, fun b o hb ho => k.same b o (h.same b o hb ho) ho⟩
theorem Kp.sub {p q : Nat → Obj → Prop} {A B : World} (h : Kp p A B) (hq : ∀ b o, q b o → p b o) : Kp q A B :=
  ⟨h.os, h.tape, h.output, h.size, fun b o hb ho => h.same b o hb (hq b o ho)⟩
theorem Kp.of_below {p : Nat → Obj → Prop} {A B : World} (h : Below A.heap.size A B) : Kp p A B :=
  ⟨h.os, h.tape, h.output, h.size, fun b _ hb _ => (h.block b (Array.getElem?_eq_some_iff.1 hb).1).trans hb⟩
theorem Kp.putObj {p : Nat → Obj → Prop} (W : World) (l : Nat) (o : Obj) (hn : ∀ x, W.heap[l]? = some x → ¬ p l x) : Kp p W (W.putObj l o) :=
  ⟨rfl, rfl, rfl, by simp, fun b x hb hx => by
    by_cases e : b = l
    · subst e; exact absurd hx (hn x hb)
    · exact (World.putObj_heap_other e).trans hb⟩
theorem Kp.setCell {p : Nat → Obj → Prop} (W : World) (a : Addr) (v : Value) (hn : ∀ x, W.heap[a.block]? = some x → ¬ p a.block x) : Kp p W (W.setCell a v) :=
  ⟨rfl, rfl, rfl, by simp, fun b x hb hx => by
    by_cases e : b = a.block
    · subst e; exact absurd hx (hn x hb)
    · exact (Below.heap_setCell W a v b e).trans hb⟩
theorem Kp.grown {p : Nat → Obj → Prop} {W W' : World} {row : Option Nat} (hg : W.grownBy W' row) (hn : ∀ r x, row = some r → W.heap[r]? = some x → ¬ p r x) : Kp p W W' :=
  ⟨hg.os, hg.tape, hg.output, hg.size, fun b x hb hx => by
    refine (hg.block b (Array.getElem?_eq_some_iff.1 hb).1 ?_).trans hb
    intro e; exact hn b x e.symm hb hx⟩
theorem Kp.drew {p : Nat → Obj → Prop} {A B : World} (h : Kp p A B) : Kp p A B.drew := ⟨h.os, h.tape, h.output, h.size, h.same⟩
theorem Kp.below {p : Nat → Obj → Prop} {n : Nat} {A B : World} (h : Kp p A B) (hn : n ≤ A.heap.size) (hp : ∀ b o, b < n → A.heap[b]? = some o → p b o) : Below n A B :=
  ⟨h.os, h.tape, h.output, h.size, fun b hb => by
    have hlt : b < A.heap.size := by omega
    have e : A.heap[b]? = some A.heap[b] := Array.getElem?_eq_getElem hlt
    exact (h.same b _ e (hp b _ hb e)).trans e.symm⟩

/-- cells of a type -/
def ofT (t : TypeId) (_ : Nat) : Obj → Prop
  | .cells _ t' _ => t' = t
  | _ => False
/-- cells of a type, and whatever is no cells -/
def noneOr (t : TypeId) (_ : Nat) : Obj → Prop
  | .cells _ t' _ => t' = t
  | _ => True
/-- cells, and whatever lies below n -/
def cellsOr (n : Nat) (b : Nat) : Obj → Prop
  | .cells .. => True
  | _ => b < n
theorem noneOr_ofT {t : TypeId} : ∀ b o, ofT t b o → noneOr t b o := fun _ o h => by cases o <;> simp_all [ofT, noneOr]

section
variable {P : Program}
/-- How a round may end here: on, or in a panic. -/
def roundPostP (P : Program) (l : Nat) (R : Ending → World → Prop) : Exit → Act → World → Prop
  | .normal, _, w => ∃ v w', (Instr.endRound l none).run P w = .ok v w' ∧ R (.returned v) w'
  | .panic c, a, w => a.defers = [] ∧ R (.panicked c) w
  | _, _, _ => False
theorem round_panics {n l : Nat} {f : FuncId} {fn : Func} {tmps : Array Value} {assign body : Code} {w : World} {R : Ending → World → Prop} (hf : P.funcs[f]? = some fn)
    (h : assign.wpIn (Fence.wide.inRound l) n P (Exit.then (fun a₁ w₁ => ∃ w₂, (Instr.beginRound l).run P w₁ = .ok () w₂ ∧ body.wpIn (Fence.wide.inRound l) n P (roundPostP P l R) a₁ w₂) (fun _ _ _ => False)) { tmps := tmps, defers := [] } w) :
    RoundIn Fence.wide n P l f tmps assign body w R := by
  refine ⟨trivial, fun c cs hr => ?_⟩
  let b : Frame := { (default : Frame) with fn := f, kind := .normal, roundOf := some l }
  have hb0 : Frame.round l f tmps assign body .normal = b.atR { tmps := tmps, defers := [] } [.code assign, .beginRound, .code body] := by
    simp [Frame.round, Frame.atR, b]
  have hr' : (Fence.wide.inRound l).room ((c :: cs).length + 1 + n) := hr
  have hF' : (Fence.wide.inRound l).fn b.fn := trivial
  obtain ⟨e, a₁, w₁, hq, harr⟩ := h b [.beginRound, .code body] (c :: cs) rfl hF' hr'
  rw [← hb0] at harr
  cases e with
  | normal =>
    obtain ⟨w₂, hbr, hbody⟩ := hq
    have s1 : StepsIn (Machine.fenced P (Fence.wide.inRound l)) P (lone (b.atR a₁ [.beginRound, .code body]) (c :: cs) w₁) (lone (b.atR a₁ [.code body]) (c :: cs) w₂) :=
      .one (fenced_calm (fr := b.atR a₁ [.beginRound, .code body]) hF' hr' rfl) (stepR_beginRound rfl hbr)
    obtain ⟨e₂, a₂, w₃, hq₂, harr₂⟩ := hbody b [] (c :: cs) rfl hF' hr'
    cases e₂ with
    | normal =>
      obtain ⟨v, w₄, hend, hR⟩ := hq₂
      exact ⟨.returned v, w₄, hR, (StepsIn.trans harr s1).trans (StepsIn.trans harr₂ (.one (fenced_calm (fr := b.atR a₂ []) hF' hr' rfl) (stepR_round_end rfl rfl hend)))⟩
    | panic chain =>
      obtain ⟨hd, hR⟩ := hq₂
      obtain ⟨todo, hs⟩ := harr₂
      have hl : ({ b.atR a₂ todo with mode := .panicking chain } : Frame).leaving P w₃ (.panicked chain) := ⟨rfl, hd, fn, hf⟩
      have hfen : (lone ({ b.atR a₂ todo with mode := .panicking chain } : Frame) (c :: cs) w₃).fenced P (Fence.wide.inRound l) := fenced_leaving hF' hr' hl
      exact ⟨.panicked chain, w₃, hR, (StepsIn.trans harr s1).trans (StepsIn.trans hs (.one hfen (step_leave_panicked hl)))⟩
    | ret => exact hq₂.elim
    | exit id => exact hq₂.elim
    | goto t => exact hq₂.elim
    | outgrown => exact hq₂.elim
  | exit id => exact hq.elim
  | goto t => exact hq.elim
  | ret => exact hq.elim
  | panic chain => exact hq.elim
  | outgrown => exact hq.elim

/-! ### Code of one known function -/
def wpB (P : Program) (f : FuncId) (c : Code) (Q : Exit → Act → World → Prop) (a : Act) (w : World) : Prop :=
  ∀ (b : Frame) (k : List Item) (cs : List Frame), b.roundOf = none → b.fn = f →
    ∃ e a' w', Q e a' w' ∧ ArrivesIn (Machine.fenced P Fence.wide) P (lone (b.atR a (.code c :: k)) cs w) b k cs e a' w'
variable {f : FuncId} {Q : Exit → Act → World → Prop} {a : Act} {w : World}
theorem wpB_of_wp {c : Code} (h : c.wp P Q a w) : wpB P f c Q a w := fun b k cs hro _ => (wpIn_wide (n := 9)).2 h b k cs hro trivial (room_wide _)
theorem wpB_seq {x y : Code} (h : wpB P f x (Exit.then (wpB P f y Q) Q) a w) : wpB P f (Code.seq x y) Q a w := by
  intro b k cs hro hb
  have hF : Fence.wide.fn b.fn := trivial
  have h0 : (lone (b.atR a (.code (.seq x y) :: k)) cs w).fenced P Fence.wide := fenced_wide _ _
  obtain ⟨e, a₁, w₁, hq, harr⟩ := h b (.code y :: k) cs hro hb
  cases e with
  | normal =>
    obtain ⟨e₂, a₂, w₂, hq₂, harr₂⟩ := hq b k cs hro hb
    exact ⟨e₂, a₂, w₂, hq₂, .of_steps (.head h0 stepR_seq harr) harr₂⟩
  | exit id => exact ⟨_, a₁, w₁, hq, .of_steps (.one h0 stepR_seq) (.pass (x := .code y) rfl (fun _ _ => .inl (by simp)) harr)⟩
  | goto l => exact ⟨_, a₁, w₁, hq, .of_steps (.one h0 stepR_seq) (.pass (x := .code y) rfl (fun _ _ => .inl (by simp)) harr)⟩
  | ret => exact ⟨_, a₁, w₁, hq, .of_steps (.one h0 stepR_seq) (.pass (x := .code y) rfl (fun _ _ => .inl (by simp)) harr)⟩
  | panic ch => exact ⟨_, a₁, w₁, hq, .of_steps (.one h0 stepR_seq) (.pass (x := .code y) rfl (fun _ _ => .inl (by simp)) harr)⟩
  | outgrown => exact ⟨_, a₁, w₁, hq, .of_steps (.one h0 stepR_seq) (.pass (x := .code y) rfl (fun _ _ => .inl (by simp)) harr)⟩
theorem wpB_block {id : Nat} {c : Code} (h : wpB P f c (Exit.inBlock id Q) a w) : wpB P f (Code.block id c) Q a w := by
  intro b k cs hro hb
  have h0 : ∀ m : Machine, m.fenced P Fence.wide := fun m => fenced_wide _ _
  obtain ⟨e, a₁, w₁, hq, harr⟩ := h b (.inBlock id :: k) cs hro hb
  cases e with
  | normal => exact ⟨.normal, a₁, w₁, hq, .head (h0 _) stepR_block (StepsIn.trans harr (.one (h0 _) stepR_inBlock))⟩
  | exit id' =>
    by_cases hid : id' = id
    · simp only [Exit.inBlock, hid, if_true] at hq
      exact ⟨.normal, a₁, w₁, hq, .head (h0 _) stepR_block (harr.1 k (by simp [exitTo, hid]))⟩
    · simp only [Exit.inBlock, hid, if_false] at hq
      have this : (id == id') = false := by simp; exact fun h => hid h.symm
      have hx : exitTo id' (.inBlock id :: k) = exitTo id' k := by simp [exitTo, this]
      exact ⟨.exit id', a₁, w₁, hq, fun k' hk => .head (h0 _) stepR_block (harr.1 k' (by rw [hx]; exact hk)),
        fun hr' hk => let ⟨k₁, h1, h2⟩ := harr.2 hr' (by rw [hx]; exact hk); ⟨k₁, h1, .head (h0 _) stepR_block h2⟩⟩
  | goto l =>
    have hx : gotoIn l (.inBlock id :: k) = gotoIn l k := by simp [gotoIn]
    exact ⟨_, a₁, w₁, hq, fun k' hk => .head (h0 _) stepR_block (harr.1 k' (by rw [hx]; exact hk)),
      fun hr' hk => let ⟨k₁, h1, h2⟩ := harr.2 hr' (by rw [hx]; exact hk); ⟨k₁, h1, .head (h0 _) stepR_block h2⟩⟩
  | ret => exact ⟨_, a₁, w₁, hq, .of_steps (.one (h0 _) stepR_block) harr⟩
  | panic ch => exact ⟨_, a₁, w₁, hq, .of_steps (.one (h0 _) stepR_block) harr⟩
  | outgrown => exact ⟨_, a₁, w₁, hq, .of_steps (.one (h0 _) stepR_block) harr⟩
theorem wpB_mono {c : Code} {Q' : Exit → Act → World → Prop} (h : wpB P f c Q a w) (hq : ∀ e a w, Q e a w → Q' e a w) : wpB P f c Q' a w :=
  fun b k cs hro hb => let ⟨e, a', w', q, r⟩ := h b k cs hro hb; ⟨e, a', w', hq _ _ _ q, r⟩
/-- A function's contract from the walk of its body, the mark of a range over a function taken in. -/
theorem calls_of_wpB {fn : Func} {c : Code} {args : Array Value} {R : Ending → World → Prop} (hf : P.funcs[f]? = some fn) (hb : fn.body = some c)
    (h : wpB P f c (bodyPostM Fence.wide 9 P fn R) { tmps := args ++ Array.replicate (fn.ntmps - args.size) undef, defers := [] } w) : Calls P f args w R := by
  refine (callsIn_wide (n := 9)).1 ⟨trivial, fun cs hr => ?_⟩
  have hF : Fence.wide.fn f := trivial
  let b : Frame := { (default : Frame) with fn := f, kind := .normal, roundOf := none }
  have henter : Frame.enter P f args .normal =
      b.atR { tmps := args ++ Array.replicate (fn.ntmps - args.size) undef, defers := [] } [.code c] := by
    simp [Frame.enter, Frame.atR, hf, hb, b]
  obtain ⟨e, a', w', hq, harr⟩ := h b [] cs rfl rfl
  rw [← henter] at harr
  cases e with
  | normal =>
    obtain ⟨e', w'', fr', hR, hs, hfn, hl⟩ := leaves_stepsInM a'.defers .returning w' { b.atR a' [] with mode := .returning } cs rfl rfl rfl hf rfl hF hr hq
    exact ⟨e', w'', fr', hR, ComesIn.of_steps (StepsIn.trans harr (.one (fenced_calm (fr := b.atR a' []) hF hr rfl) (stepR_end rfl))) hs, hfn, hl⟩
  | ret =>
    obtain ⟨todo, hs₀⟩ := harr.1 rfl
    obtain ⟨e', w'', fr', hR, hs, hfn, hl⟩ := leaves_stepsInM a'.defers .returning w' { b.atR a' todo with mode := .returning } cs rfl rfl rfl hf rfl hF hr hq
    exact ⟨e', w'', fr', hR, ComesIn.of_steps hs₀ hs, hfn, hl⟩
  | panic chain =>
    obtain ⟨todo, hs₀⟩ := harr
    obtain ⟨e', w'', fr', hR, hs, hfn, hl⟩ := leaves_stepsInM a'.defers (.panicking chain) w' { b.atR a' todo with mode := .panicking chain } cs rfl rfl rfl hf rfl hF hr hq
    exact ⟨e', w'', fr', hR, ComesIn.of_steps hs₀ hs, hfn, hl⟩
  | exit id => exact hq.elim
  | goto l => exact hq.elim
  | outgrown => exact ⟨.outgrown, w', b, hq, harr.resolve_left (by simp [b]), rfl, trivial⟩

/-- How the body of a round is left: on, or by a panic. -/
def bdPost (t : TypeId) (I : Nat → World → Prop) (Ip : List PanicEntry → World → Prop) (k : Nat) (W : World) : Exit → Act → World → Prop
  | .normal, _, W' => Kp (noneOr t) W W' ∧ I (k + 1) W'
  | .panic c, a, W' => a.defers = [] ∧ Kp (noneOr t) W W' ∧ Ip c W'
  | _, _, _ => False
/-- The contract of an iterator that hands over N rounds, if none panics. Ok: what round k is handed; t: the type of cells that a round leaves as they are. -/
def Gives (P : Program) (n : Nat) (t : TypeId) (gf : Nat) (lb : Array Value) (N : Nat) (Ok : Nat → World → Array Value → Prop) (w : World) : Prop :=
  ∀ (l : Nat) (J : Nat → World → Prop) (Jp : List PanicEntry → World → Prop) (W : World), Below w.heap.size w W → (∀ k A B, J k A → Below A.heap.size A B → J k B) →
    (∀ k W1 args, k < N → J k W1 → Ok k W1 args → YieldAt Fence.wide (n - 1) P l args W1 fun e W' => (e = .returned (.bool true) ∧ J (k + 1) W' ∧ Kp (ofT t) W1 W') ∨ ∃ c, e = .panicked c ∧ Jp c W') →
    J 0 W → CallsIn Fence.wide n P gf (#[.func (.yield l) #[] #[]] ++ lb) W fun e W' => ((∃ v, e = .returned v) ∧ J N W') ∨ ∃ c, e = .panicked c ∧ Jp c W'

theorem wpB_range {t : TypeId} {n : Nat} {fn : Func} {g : Operand} {ps : Array Tmp} {assign body : Code} {gf : Nat} {lb : Array Value} {N : Nat} {Ok : Nat → World → Array Value → Prop} (hf : P.funcs[f]? = some fn)
    (hg : a.eval g = .func (.func gf) #[] lb) (eg : ∀ args w, (callFunc gf args).run P w = .ok (.enter gf args) w) (hseq : Gives P n t gf lb N Ok w)
    (hsz : ∀ k W args, Ok k W args → args.size = ps.size) (hOk : ∀ k A B args, Ok k A args → Kp (cellsOr 0) A B → Ok k B args)
    (I : Nat → World → Prop) (Ip : List PanicEntry → World → Prop) (hI : ∀ k A B, I k A → Kp (cellsOr w.heap.size) A B → I k B) (h0 : I 0 w) (a₁ : Array Value → Act)
    (hassign : ∀ (l : Nat) (args : Array Value) (W : World) (K : Act → World → Prop), args.size = ps.size → K (a₁ args) W →
      assign.wpIn (Fence.wide.inRound l) (n - 1) P (Exit.then K (fun _ _ _ => False)) { tmps := (ps.zip args).foldl (fun t (p, v) => t.setIfInBounds p v) a.tmps, defers := [] } W)
    (hbody : ∀ (l k : Nat) (W : World) (args : Array Value), k < N → I k W → Ok k W args → body.wpIn (Fence.wide.inRound l) (n - 1) P (bdPost t I Ip k W) (a₁ args) W)
    (hdone : ∀ (D : Nat) (W : World), I N W → W.heap[D]? = some (.deferred (some [])) → w.heap.size ≤ D → Q .normal { a with defers := { target := .collected D, args := #[] } :: a.defers } W)
    (hpanic : ∀ (D : Nat) (c : List PanicEntry) (W : World), Ip c W → W.heap[D]? = some (.deferred (some [])) → w.heap.size ≤ D → Q (.panic c) { a with defers := { target := .collected D, args := #[] } :: a.defers } W) :
    wpB P f (Code.rangeFunc g ps assign body) Q a w := by
  intro b k cs hro hb
  have hF : Fence.wide.fn b.fn := trivial
  obtain ⟨rec, hrec⟩ : ∃ rec : LoopState → Option Code → Loop, rec = fun st pe => { state := st, pending := pe, fn := f, tmps := a.tmps, params := ps, assign, body, defers := w.heap.size } := ⟨_, rfl⟩
  obtain ⟨W1, hW1⟩ : ∃ W1, (w.alloc (.deferred (some []))).alloc (.loop (rec .ready none)) = W1 := ⟨_, rfl⟩
  have hL1 : W1.heap[w.heap.size + 1]? = some (.loop (rec .ready none)) := by
    rw [← hW1]; have := World.alloc_heap_new (w.alloc (.deferred (some []))) (.loop (rec .ready none)); rwa [World.size_alloc] at this
  have hK1 : W1.heap[w.heap.size]? = some (.deferred (some [])) := by
    rw [← hW1]; exact (Below.heap_alloc _ _ _ (by simp)).trans (World.alloc_heap_new w _)
  have hb1 : Below w.heap.size w W1 := by rw [← hW1]; exact ((Below.refl _ w).alloc (Nat.le_refl _) _).alloc (by simp) _
  have hI1 : I 0 W1 := hI 0 w W1 h0 (Kp.of_below hb1)
  have he : (Instr.enterLoop b.fn a.tmps ps assign body none).run P w = .ok (w.heap.size + 1, [{ target := .collected w.heap.size, args := #[] }]) W1 := by
    rw [← hW1, hrec, hb]; exact run_enterLoop_outer _ _ _ _ _
  have hres : (resolve a.eval (rangeCall g (w.heap.size + 1)) 0).run P W1 = .ok { target := .fn (.func gf) lb, args := #[.func (.yield (w.heap.size + 1)) #[] #[]] } W1 := by
    simp only [resolve, hg]
    simp [go_sem]
  have hinv : (invoke (.fn (.func gf) lb) #[.func (.yield (w.heap.size + 1)) #[] #[]]).run P W1 = .ok (.enter gf (#[.func (.yield (w.heap.size + 1)) #[] #[]] ++ lb)) W1 := by
    simp [invoke, go_sem, eg]
  have hcall : CallsIn Fence.wide n P gf (#[.func (.yield (w.heap.size + 1)) #[] #[]] ++ lb) W1 fun e W' =>
      ((∃ v, e = .returned v) ∧ I N W' ∧ W'.heap[w.heap.size + 1]? = some (.loop (rec .ready none)) ∧ W'.heap[w.heap.size]? = some (.deferred (some []))) ∨ ∃ c, e = .panicked c ∧ Ip c W' ∧ W'.heap[w.heap.size]? = some (.deferred (some [])) := by
    refine hseq (w.heap.size + 1) (fun k W => I k W ∧ W.heap[w.heap.size + 1]? = some (.loop (rec .ready none)) ∧ W.heap[w.heap.size]? = some (.deferred (some [])))
      (fun c W => Ip c W ∧ W.heap[w.heap.size]? = some (.deferred (some []))) W1 hb1 ?_ ?_ ⟨hI1, hL1, hK1⟩
    · rintro k A B ⟨hi, hl, hk⟩ hAB
      exact ⟨hI k A B hi (Kp.of_below hAB), (hAB.block _ (Array.getElem?_eq_some_iff.1 hl).1).trans hl, (hAB.block _ (Array.getElem?_eq_some_iff.1 hk).1).trans hk⟩
    · rintro k W args hkN ⟨hi, hl, hk⟩ hok
      have hlt : w.heap.size + 1 < W.heap.size := (Array.getElem?_eq_some_iff.1 hl).1
      have hy := run_yield (P := P) (args := args) hl (by rw [hrec]; exact hsz k W args hok)
      rw [hrec] at hy
      have hnl : ∀ (q : Loop) (W : World), W.heap[w.heap.size + 1]? = some (.loop q) → ∀ (n : Nat) x, n ≤ w.heap.size → W.heap[w.heap.size + 1]? = some x → ¬ cellsOr n (w.heap.size + 1) x := fun q W hq n x hn hx => by
        rw [hq] at hx; cases hx; show ¬ (w.heap.size + 1 < n); omega
      have hput : ∀ (q q' : Loop) (W : World), W.heap[w.heap.size + 1]? = some (.loop q) → ∀ n, n ≤ w.heap.size → Kp (cellsOr n) W (W.putObj (w.heap.size + 1) (.loop q')) := fun q q' W hq n hn => Kp.putObj _ _ _ fun x hx => hnl q W hq n x hn hx
      have hputT : ∀ (q q' : Loop) (W : World), W.heap[w.heap.size + 1]? = some (.loop q) → Kp (ofT t) W (W.putObj (w.heap.size + 1) (.loop q')) := fun q q' W hq => Kp.putObj _ _ _ fun x hx => by rw [hq] at hx; cases hx; exact fun h => h
      refine ⟨f, _, assign, body, hy, round_panics hf (hassign _ args W _ (hsz k W args hok) ⟨_, run_beginRound hl (by rw [hrec]), ?_⟩)⟩
      have hl2 : (W.putObj (w.heap.size + 1) (.loop { rec .ready none with state := .busy })).heap[w.heap.size + 1]? = some (.loop { rec .ready none with state := .busy }) := World.putObj_heap_same hlt
      have hk2 : (W.putObj (w.heap.size + 1) (.loop { rec .ready none with state := .busy })).heap[w.heap.size]? = some (.deferred (some [])) := (World.putObj_heap_other (by omega)).trans hk
      refine wpIn_mono (hbody _ k _ args hkN (hI k _ _ hi (hput _ _ _ hl _ (Nat.le_refl _))) (hOk k _ _ args hok (hput _ _ _ hl 0 (Nat.zero_le _)))) ?_
      rintro e a3 W3 hp
      cases e with
      | normal =>
        obtain ⟨hk3, hi3⟩ := hp
        have hl3 := hk3.same _ _ hl2 trivial
        have hr := run_endRound (P := P) none hl3
        rw [hrec] at hr hl3
        have hfin : (W3.putObj (w.heap.size + 1) (.loop (rec .ready none))).heap[w.heap.size + 1]? = some (.loop (rec .ready none)) := World.putObj_heap_same (Array.getElem?_eq_some_iff.1 hl3).1
        rw [hrec] at hfin
        refine ⟨_, _, hr, .inl ⟨rfl, ⟨hI _ _ _ hi3 (hput _ _ _ hl3 _ (Nat.le_refl _)), ?_, (World.putObj_heap_other (by omega)).trans (hk3.same _ _ hk2 trivial)⟩, ((hputT _ _ _ hl).trans (hk3.sub noneOr_ofT)).trans (hputT _ _ _ hl3)⟩⟩
        rw [hrec]; exact hfin
      | panic c =>
        obtain ⟨hd, hk3, hi3⟩ := hp
        exact ⟨hd, .inr ⟨c, rfl, hi3, hk3.same _ _ hk2 trivial⟩⟩
      | ret => exact hp.elim
      | exit id => exact hp.elim
      | goto t => exact hp.elim
      | outgrown => exact hp.elim
  have hr : Fence.wide.room (cs.length + 1 + (n + 1)) := room_wide _
  have h0' : (lone (b.atR a (.code (.rangeFunc g ps assign body) :: k)) cs w).fenced P Fence.wide := fenced_wide _ _
  have henter := stepR_rangeFunc (P := P) (b := b) (a := a) (k := k) (cs := cs) (w := w) (by rw [hro]; exact he) hres hinv
  obtain ⟨e, w₃, fr, hR, hsteps, hfn, hleave⟩ := hcall.2 (b.atR { a with defers := [{ target := .collected w.heap.size, args := #[] }] ++ a.defers } (.inRangeFunc (w.heap.size + 1) :: k) :: cs) (room_wide _)
  cases e with
  | outgrown => rcases hR with ⟨⟨v, h⟩, -⟩ | ⟨c, h, -⟩ <;> cases h
  | returned v =>
    rcases hR with ⟨-, hiN, hl, hk⟩ | ⟨c, h, -⟩
    · have hend := run_endLoop (P := P) hl (by rw [hrec]; simp)
      rw [hrec] at hend
      refine ⟨.normal, { a with defers := { target := .collected w.heap.size, args := #[] } :: a.defers }, _, hdone w.heap.size (w₃.putObj (w.heap.size + 1) (.loop { rec .ready none with state := .exhausted })) (hI _ _ _ hiN (Kp.putObj _ _ _ fun x hx => by rw [hl] at hx; cases hx; show ¬ (w.heap.size + 1 < w.heap.size); omega))
        ((World.putObj_heap_other (by omega)).trans hk) (Nat.le_refl _), ?_⟩
      rw [hrec]
      refine .head h0' henter (StepsIn.trans hsteps (.head (fenced_wide _ _) ?_ (.one (fenced_wide _ _) (stepR_endRangeFunc hend))))
      rw [← finish_atR_inRangeFunc (w.heap.size + 1) v]; exact step_leave_returned hleave
    · cases h
  | panicked chain =>
    rcases hR with ⟨⟨v, h⟩, -⟩ | ⟨c, h, hi, hk⟩
    · cases h
    · cases h
      refine ⟨.panic chain, { a with defers := { target := .collected w.heap.size, args := #[] } :: a.defers }, w₃, hpanic w.heap.size chain w₃ hi hk (Nat.le_refl _), .inRangeFunc (w.heap.size + 1) :: k, .head h0' henter (StepsIn.trans hsteps (.one (fenced_wide _ _) ?_))⟩
      rw [← Frame.raise_atR]; exact step_leave_panicked hleave
end
end Go.Proofs.YtgfbmidpiamkhaaDoor

namespace Go.Proofs.YtgfbmidpiamkhaaDoor
open Go.RowKit
open C01 D28

theorem pre_ten (x : UInt8) (l : List UInt8) : [10].isPrefixOf (x :: l) = (x == 10) := by
  rw [Bool.eq_iff_iff, List.isPrefixOf_iff_prefix, List.cons_prefix_cons, beq_iff_eq]
  exact ⟨fun h => h.1.symm, fun h => ⟨h.symm, List.nil_prefix⟩⟩
theorem index_ten (l : List UInt8) : Lib.index (10 :: l) [10] = 0 := by rw [Lib.index, pre_ten]; rfl
theorem index_noten {x : UInt8} {l : List UInt8} (hx : x ≠ 10) : Lib.index (x :: l) [10] = if Lib.index l [10] == -1 then -1 else Lib.index l [10] + 1 := by
  rw [Lib.index, pre_ten]
  simp [hx]
theorem split_cut10 : ∀ l : List UInt8, Lib.splitK [10] 0 (l.count 10) l = cut10 l
  | [] => rfl
  | x :: l => by
    have ih := split_cut10 l
    by_cases hx : x = 10
    · subst hx
      rw [List.count_cons_self, Lib.splitK, index_ten]
      simp only [cut10_end]
      rw [← ih]
      simp
    · have hc : (x :: l).count 10 = l.count 10 := List.count_cons_of_ne (fun e => hx e)
      rw [hc]
      cases hk : l.count 10 with
      | zero =>
        rw [hk] at ih
        rw [cut10_other hx (show cut10 l = l :: [] from ih.symm)]
        rfl
      | succ k =>
        rw [hk] at ih
        rw [Lib.splitK] at ih ⊢
        rw [index_noten hx]
        by_cases hi : (Lib.index l [10] == -1) = true
        · rw [if_pos hi] at ih ⊢
          rw [cut10_other hx ih.symm]
          rfl
        · rw [if_neg hi] at ih ⊢
          have h0 : 0 ≤ Lib.index l [10] := by
            have := Lib.index_ge l [10]
            have : Lib.index l [10] ≠ -1 := fun e => hi (beq_iff_eq.2 e)
            omega
          have h1 : ¬ (Lib.index l [10] + 1 == -1) = true := fun e => by have := beq_iff_eq.1 e; omega
          rw [if_neg h1, cut10_other hx ih.symm]
          have e1 : (Lib.index l [10] + 1).toNat = (Lib.index l [10]).toNat + 1 := by omega
          simp [e1]
theorem countB_ten (a : Bs) : Lib.countB (bz a) ⟨#[10]⟩ = a.count 10 := Lib.count_one 10 _
theorem split_ten (a : Bs) : Lib.splitB ⟨#[10]⟩ 0 (Lib.countB (bz a) ⟨#[10]⟩) (bz a) = (cut10 a).map bz := by
  have h : (Lib.splitB ⟨#[10]⟩ 0 (Lib.countB (bz a) ⟨#[10]⟩) (bz a)).map (·.data.toList) = cut10 a := by
    rw [Lib.splitB_data, countB_ten]; exact split_cut10 a
  rw [← h, List.map_map]
  conv => lhs; rw [← List.map_id (Lib.splitB ⟨#[10]⟩ 0 (Lib.countB (bz a) ⟨#[10]⟩) (bz a))]
  exact List.map_congr_left fun x _ => bz_of x
theorem Split_any (a : Bs) (m : Int) (w : World) (ha : a.length ≤ 1000000000) (hm : w.cell? ⟨0, 0, none⟩ = some (.int .i64 m)) : Calls Tryd.prog 47 #[sv a, .string ⟨#[10]⟩] w fun e w' =>
    e = .returned (.slice (some ⟨w.heap.size, 0, none⟩) (cut10 a).length (cut10 a).length) ∧ w' = w.alloc (.cells ((cut10 a).map sv).toArray 9) := by
  refine (Any.strings_Split laySp (by kernel_rfl) (bz a) ⟨#[10]⟩ m w (by rw [bz_size]; omega) hm (by decide)).mono ?_
  rintro e w' ⟨rfl, rfl⟩
  rw [split_ten, countB_ten, cut10_len, List.map_map]
  exact ⟨rfl, rfl⟩
/-- words of a line in memory -/
def WAt (w : World) (v : Value) (W : List Bs) : Prop :=
  ∃ g cap cur, v = .slice (some ⟨g, 0, none⟩) W.length cap ∧ w.heap[g]? = some (.cells cur 9 (0, 0)) ∧ ∀ j (h : j < W.length), cur[j]? = some (sv W[j])
theorem WAt.of_own {w : World} {B : Nat} {v : Value} {W : List Bs} (h : OwnT w B v W) (hW : W ≠ []) : WAt w v W := by
  have hp := List.length_pos_iff.2 hW
  obtain ⟨_, ⟨rfl, h0⟩ | ⟨g, cap, cur, rfl, hbg, hg, hnc, hcm, hsz, htk⟩⟩ := h
  · omega
  · refine ⟨g, cap, cur, rfl, hg, fun j hj => ?_⟩
    have : (cur.toList.take (W.length * 1))[j]? = some (sv W[j]) := by rw [htk]; simp [hj]
    rw [List.getElem?_take_of_lt (by omega)] at this
    simpa using this
theorem WAt.kp {p : Nat → Obj → Prop} {w w' : World} {v : Value} {W : List Bs} (h : WAt w v W) (hk : Kp p w w') (hp : ∀ b c f, p b (.cells c 9 f)) : WAt w' v W := by
  obtain ⟨g, cap, cur, hv, hg, hc⟩ := h
  exact ⟨g, cap, cur, hv, hk.same g _ hg (hp _ _ _), hc⟩
def OkL (a : Bs) (k : Nat) (w : World) (args : Array Value) : Prop := ∃ (h : k < (linesOf a).length) (v : Value), args = #[.int .i64 ((linesOf a)[k].1 : Nat), v] ∧ WAt w v (linesOf a)[k].2
/-! ### words are not empty -/
theorem wstep_ne {s : WS} {c : UInt8} (h : ∀ x ∈ s.1, x ≠ []) : ∀ x ∈ (wstep s c).1, x ≠ [] := by
  unfold wstep
  split
  · split
    · exact h
    · intro x hx
      simp only [List.mem_append, List.mem_singleton] at hx
      rcases hx with hx | rfl
      · exact h x hx
      · assumption
  · exact h
theorem foldl_ne (a : Bs) : ∀ s : WS, (∀ x ∈ s.1, x ≠ []) → ∀ x ∈ (a.foldl wstep s).1, x ≠ [] := by
  induction a with
  | nil => exact fun s h => h
  | cons c a ih => exact fun s h => ih _ (wstep_ne h)
theorem wfin_ne {s : WS} (h : ∀ x ∈ s.1, x ≠ []) : ∀ x ∈ wfin s, x ≠ [] := by
  unfold wfin
  split
  · exact h
  · intro x hx
    simp only [List.mem_append, List.mem_singleton] at hx
    rcases hx with hx | rfl
    · exact h x hx
    · assumption
theorem words_ne (a : Bs) : ∀ x ∈ wordsOf a, x ≠ [] := wfin_ne (foldl_ne a _ (by simp))
theorem emits_take {ps : List Bs} {i : Nat} (h : i < ps.length) (n : Nat) : emits n (ps.take (i + 1)) = emits n (ps.take i) ++ emitL (n + i) (wordsOf ps[i]) := by
  rw [List.take_succ_eq_append_getElem h, emits_append]
  simp [emits, List.length_take, Nat.min_eq_left (Nat.le_of_lt h)]
theorem emits_pre {ps : List Bs} {i : Nat} (n : Nat) : emits n (ps.take i) <+: emits n ps := by
  conv => rhs; rw [← List.take_append_drop i ps]
  rw [emits_append]; exact List.prefix_append _ _
theorem cut10_mem {a p : Bs} (h : p ∈ cut10 a) : p.length ≤ a.length := by
  induction a generalizing p with
  | nil => simp [cut10] at h; subst h; simp
  | cons x a ih =>
    obtain ⟨q, qs, hq⟩ : ∃ p ps, cut10 a = p :: ps := by
      cases h : cut10 a with
      | nil => exact absurd h (cut10_ne a)
      | cons p ps => exact ⟨p, ps, rfl⟩
    by_cases hx : x = 10
    · subst hx
      rw [cut10_end] at h
      rcases List.mem_cons.1 h with rfl | h
      · simp
      · have := ih h; simp; omega
    · rw [cut10_other hx hq] at h
      rcases List.mem_cons.1 h with rfl | h
      · have := ih (p := q) (by rw [hq]; simp); simp; omega
      · have := ih (p := p) (by rw [hq]; simp [h]); simp; omega
attribute [local go_sem] Oper.semAt_some
set_option maxRecDepth 100000 in
set_option maxHeartbeats 4000000 in
theorem lines1_gives (a : Bs) (m : Int) (b : Nat) (w : World) (hm : w.cell? ⟨0, 0, none⟩ = some (.int .i64 m)) (hb : w.cell? ⟨b, 0, none⟩ = some (sv a)) (ha : a.length ≤ 1000000000) :
    Gives Tryd.prog 9 9 46 #[.pointer (some ⟨b, 0, none⟩)] (linesOf a).length (OkL a) w := by
  intro l J Jp W hbW hJ hY h0
  have hm1 : W.cell? ⟨0, 0, none⟩ = some (.int .i64 m) := (hbW.cell (p := ⟨_, _, _⟩) (World.block_lt_of_cell? w _ hm)).trans hm
  have hb1 : W.cell? ⟨b, 0, none⟩ = some (sv a) := (hbW.cell (p := ⟨_, _, _⟩) (World.block_lt_of_cell? w _ hb)).trans hb
  have HS := Lib.hid (Split_any a m W ha hm1)
  refine callsIn_of_wp Tryd.func46 rfl trivial ?_
  simp only [Tryd.ntmps46, List.size_toArray, List.length_cons, List.length_nil, Nat.reduceAdd, Nat.reduceSub, Array.replicate_succ, Array.replicate_zero, List.push_toArray, List.append_toArray, List.nil_append, List.cons_append]
  gi_wp2_with (refine ⟨trivial, ?_⟩; gi_at_call 47; refine (callsIn_wide.2 HS.out).mono ?_; rintro e w1 ⟨rfl, hw1⟩)
  rw [← hw1]
  have hS1 : w1.heap[W.heap.size]? = some (.cells ((cut10 a).map sv).toArray 9 (0, 0)) := by rw [hw1]; exact heap_alloc_new _ _
  have h01 : J 0 w1 := by rw [hw1]; exact hJ 0 W _ h0 (below_alloc _ _)
  obtain ⟨Sb, hSb⟩ : ∃ Sb, Sb = W.heap.size := ⟨_, rfl⟩
  rw [← hSb] at hS1 ⊢
  clear hw1 hSb hb1 hm1 hm hb h0 HS
  obtain ⟨ps, hps⟩ : ∃ ps, ps = cut10 a := ⟨_, rfl⟩
  have hL : linesOf a = emits 1 ps := by rw [linesOf_eq, hps]
  have hpl : ps.length ≤ a.length + 1 := by rw [hps, cut10_len]; have := List.count_le_length (a := (10 : UInt8)) (l := a); omega
  have hpm : ∀ p ∈ ps, p.length ≤ 1000000000 := by
    rw [hps]; intro p hp; have := cut10_mem hp; omega
  rw [← hps] at hS1 ⊢
  have HL := Lib.hid hL
  have HY := Lib.hid hY
  have HJ := Lib.hid hJ
  clear hL hps hY hJ
  gi_loopw [9] (fun iv wr => ∃ i : Nat, i ≤ ps.length ∧ iv = .int .i64 i ∧ Hid (J (emits 1 (ps.take i)).length wr) ∧ Hid (wr.heap[Sb]? = some (.cells (ps.map sv).toArray 9 (0, 0)))) (fun iv _ => ps.length - (intOf iv).toNat)
  case atStart => exact ⟨0, Nat.zero_le _, rfl, Lib.hid h01, Lib.hid hS1⟩
  case round =>
    obtain ⟨i, hi, rfl, HJi, HS⟩ := hrel
    by_cases hlt : i < ps.length
    · have hc : wr.cell? ⟨Sb, i, none⟩ = some (sv ps[i]) := by rw [cell_of_row _ _ i _ _ _ HS.out]; simp [hlt]
      have hpi := hpm _ (List.getElem_mem hlt)
      have HW := Lib.hid (fun w => words_any ps[i] w hpi)
      have Hne := Lib.hid (words_ne ps[i])
      have HT := Lib.hid (emits_take hlt 1)
      have HP := Lib.hid (emits_pre (ps := ps) (i := i + 1) 1)
      obtain ⟨V, hV⟩ : ∃ V, V = wordsOf ps[i] := ⟨_, rfl⟩
      rw [← hV] at HW Hne HT
      clear hV
      cases V with
      | nil =>
        have Hn := Lib.hid (show emits 1 (ps.take (i + 1)) = emits 1 (ps.take i) by rw [HT.out]; simp [emitL, countsB])
        gi_wp2_with (refine ⟨trivial, ?_⟩; gi_at_call 48; refine (callsIn_wide.2 (HW.out _)).mono ?_; rintro e w2 ⟨v, rfl, ho, hbl⟩; obtain ⟨A2, c2, rfl⟩ := own_shape ho; have HJ2 := Lib.hid (HJ.out _ _ _ HJi.out hbl); have HS2 := Lib.hid ((hbl.block _ (Array.getElem?_eq_some_iff.1 HS.out).1).trans HS.out); clear ho hbl)
        refine ⟨fun _ _ => trivial, ?_⟩
        gi_wp2
        go_roundw
        case rel => exact ⟨i + 1, by omega, by go_num, Lib.hid (by rw [Hn.out]; exact HJ2.out), HS2⟩
        case measure => simp [intOf]; omega
      | cons x V =>
        have hx0 : 0 < (bz x).size := by
          have := Hne.out x (by simp)
          rw [bz_size]; exact List.length_pos_iff.2 this
        have hx00 : (bz x)[0] = x[0]'hx0 := rfl
        have hvl : (0 : Int) < ((V.length : Nat) : Int) + 1 := by omega
        by_cases h99 : x[0]'hx0 = 99
        · have hb99 : (((bz x)[0].toNat : Int) != 99) = false := by rw [hx00, h99]; rfl
          have Hn := Lib.hid (show emits 1 (ps.take (i + 1)) = emits 1 (ps.take i) by
            rw [HT.out]
            cases x with
            | nil => cases hx0
            | cons y ys =>
              have h99 : y = 99 := h99
              subst h99; simp [emitL, countsB])
          clear h99 hx00
          gi_wp2_with (refine ⟨trivial, ?_⟩; gi_at_call 48; refine (callsIn_wide.2 (HW.out _)).mono ?_; rintro e w2 ⟨v, rfl, ho, hbl⟩; have HJ2 := Lib.hid (HJ.out _ _ _ HJi.out hbl); have HS2 := Lib.hid ((hbl.block _ (Array.getElem?_eq_some_iff.1 HS.out).1).trans HS.out); obtain ⟨g, cap, cur, rfl, hg, hcs⟩ := WAt.of_own ho (by simp); have hc0 := (cell_of_row _ _ 0 _ _ _ hg).trans (hcs 0 (by simp)); dsimp only [List.getElem_cons_zero] at hc0; clear ho hbl hg hcs)
          refine ⟨fun _ _ => trivial, ?_⟩
          gi_wp2
          go_roundw
          case rel => exact ⟨i + 1, by omega, by go_num, Lib.hid (by rw [Hn.out]; exact HJ2.out), HS2⟩
          case measure => simp [intOf]; omega
        · have hb99 : (((bz x)[0].toNat : Int) != 99) = true := by
            rw [hx00, bne_iff_ne]; intro e; exact h99 (UInt8.toNat_inj.1 (by show (x[0]'hx0).toNat = 99; omega))
          have hcb : countsB (x :: V) = true := by
            cases x with
            | nil => cases hx0
            | cons y ys =>
              have h99 : y ≠ 99 := h99
              unfold countsB
              split <;> simp_all
          obtain ⟨k, hk⟩ : ∃ k, k = (emits 1 (ps.take i)).length := ⟨_, rfl⟩
          have hT2 : emits 1 (ps.take (i + 1)) = emits 1 (ps.take i) ++ [(1 + i, x :: V)] := by rw [HT.out, emitL, if_pos hcb]
          have Hk1 := Lib.hid (show (emits 1 (ps.take (i + 1))).length = k + 1 by rw [hT2, hk]; simp)
          have hkN : k < (linesOf a).length := by
            rw [HL.out]; have := HP.out.length_le; rw [Hk1.out] at this; omega
          have hat : (linesOf a)[k] = (1 + i, x :: V) := by
            have e : linesOf a = emits 1 ps := HL.out
            obtain ⟨r, hr⟩ := HP.out
            have : (linesOf a)[k]? = some (1 + i, x :: V) := by rw [e, ← hr, hT2, hk]; simp
            rw [List.getElem?_eq_getElem hkN] at this
            exact Option.some.inj this
          have HA := Lib.hid hat
          have Hki := Lib.hid hk
          clear h99 hx00 hcb hT2 hk hat
          gi_wp2_with (refine ⟨trivial, ?_⟩; gi_at_call 48; refine (callsIn_wide.2 (HW.out _)).mono ?_; rintro e w2 ⟨v, rfl, ho, hbl⟩; have HJ2 := Lib.hid (HJ.out _ _ _ HJi.out hbl); have HS2 := Lib.hid ((hbl.block _ (Array.getElem?_eq_some_iff.1 HS.out).1).trans HS.out); have hwa := WAt.of_own ho (by simp); have hok : OkL a k w2 #[.int .i64 ((i : Int) + 1), v] := ⟨hkN, v, by rw [HA.out]; simp; omega, by rw [HA.out]; exact hwa⟩; obtain ⟨g, cap, cur, rfl, hg, hcs⟩ := hwa; have hc0 := (cell_of_row _ _ 0 _ _ _ hg).trans (hcs 0 (by simp)); dsimp only [List.getElem_cons_zero] at hc0; obtain ⟨fn, tmps, asg, bd, hy, hR⟩ := HY.out k w2 _ hkN (by rw [Hki.out]; exact HJ2.out) hok; simp only [List.length_cons] at hy; clear ho hbl hg hcs hok)
          refine hR.mono ?_
          rintro e W3 (⟨rfl, hJ3, hk3⟩ | ⟨c, rfl, hp⟩)
          · have HS3 := Lib.hid (hk3.same _ _ HS2.out rfl)
            have HJ3 := Lib.hid hJ3
            clear hJ3 hk3 hR hy
            gi_wp2
            go_roundw
            case rel => exact ⟨i + 1, by omega, by go_num, Lib.hid (by rw [Hk1.out]; exact HJ3.out), HS3⟩
            case measure => simp [intOf]; omega
          · exact ⟨rfl, .inr ⟨c, rfl, hp⟩⟩
    · obtain rfl : i = ps.length := by omega
      have Hn := Lib.hid (show J (linesOf a).length wr by rw [HL.out]; simpa using HJi.out)
      clear hlt hi HS HJi
      gi_wp2
      go_end0
      exact .inl ⟨⟨_, rfl⟩, Hn.out⟩
end Go.Proofs.YtgfbmidpiamkhaaDoor

namespace Go.Proofs.YtgfbmidpiamkhaaDoor
open Go.RowKit
open C01 D28

theorem dig_eqU (c : UInt8) : digitB (c.toNat : Int) = digU c := by
  unfold digitB digU
  rw [Bool.eq_iff_iff]
  simp only [Bool.and_eq_true, decide_eq_true_eq]
  omega
theorem parseL_eq (a : Bs) : parseL a = parseD (minusB a) (restB a) := by
  cases a with
  | nil => rfl
  | cons c r =>
    by_cases h : c = 45
    · subst h; rfl
    · have h1 : minusB (c :: r) = false := by unfold minusB; split <;> simp_all
      have h2 : restB (c :: r) = c :: r := by unfold restB; split <;> simp_all
      rw [h1, h2]; unfold parseL; split <;> simp_all
def wrongD (neg : Bool) (d : Bs) : Prop := d = [] ∨ 9 < d.length ∨ (d.head? = some 48 ∧ (1 < d.length ∨ neg = true))
instance (neg : Bool) (d : Bs) : Decidable (wrongD neg d) := by unfold wrongD; infer_instance
theorem parseD_wrong {neg : Bool} {d : Bs} (h : wrongD neg d) : parseD neg d = none := by unfold parseD; exact if_pos h
theorem parseD_ok {neg : Bool} {d : Bs} (h : ¬ wrongD neg d) : parseD neg d = if d.all digU then some (if neg then -(numOf d : Int) else (numOf d : Int)) else none := by unfold parseD; exact if_neg h
theorem numOf_take {d : Bs} {k : Nat} (h : k < d.length) : numOf (d.take (k + 1)) = 10 * numOf (d.take k) + (d[k].toNat - 48) := by
  unfold numOf
  rw [List.take_succ_eq_append_getElem h, List.foldl_append]; rfl
theorem numOf_lt {d : Bs} : ∀ k, k ≤ d.length → (d.take k).all digU = true → numOf (d.take k) < 10 ^ k
  | 0, _, _ => by simp [numOf]
  | k + 1, h, ha => by
    have hk : k < d.length := h
    rw [List.take_succ_eq_append_getElem hk, List.all_append] at ha
    simp only [List.all_cons, List.all_nil, Bool.and_true, Bool.and_eq_true] at ha
    have ih := numOf_lt k (by omega) ha.1
    rw [numOf_take hk, Nat.pow_succ]
    have := ha.2
    unfold digU at this
    simp only [Bool.and_eq_true, decide_eq_true_eq] at this
    omega
theorem bytes_startD (w : World) (d : Bs) (cap : Nat) (t : TypeId) : Below w.heap.size w (w.drew.alloc (.cells (bytesRow (bz d) cap) t ((bytesRow (bz d) cap).size, (bytesRow (bz d) cap).size + 1))) ∧ ∀ k (hk : k < d.length), (w.drew.alloc (.cells (bytesRow (bz d) cap) t ((bytesRow (bz d) cap).size, (bytesRow (bz d) cap).size + 1))).cell? ⟨w.heap.size, k, none⟩ = some (.int .u8 (d[k].toNat : Nat)) := by
  refine ⟨((Below.refl _ w).drew.alloc (Nat.le_refl _) _), fun k hk => ?_⟩
  have h : (w.drew.alloc (.cells (bytesRow (bz d) cap) t ((bytesRow (bz d) cap).size, (bytesRow (bz d) cap).size + 1))).heap[w.heap.size]? = some (.cells (bytesRow (bz d) cap) t ((bytesRow (bz d) cap).size, (bytesRow (bz d) cap).size + 1)) := by
    show (w.drew.heap.push _)[w.drew.heap.size]? = _
    exact Array.getElem?_push_size
  rw [cell_of_row _ _ _ _ _ _ h, bytesRow_at (bz d) cap k hk]
  rfl
def ParsePost (a : Bs) (n : Int) (w : World) (e : Ending) (w' : World) : Prop :=
  (match parseL a with | some x => e = .returned (.int .i64 x) | none => e = .panicked (flt 1 n)) ∧ Below w.heap.size w w'
set_option maxRecDepth 100000 in
set_option maxHeartbeats 4000000 in
theorem parse_any (a : Bs) (n : Int) (w : World) : Calls Tryd.prog 30 #[sv a, .int .i64 n] w (ParsePost a n w) := by
  have HC := Lib.hid (fun w => CutPrefix_any a w)
  have HF := Lib.hid (fun w => fail_any 1 n w)
  have HD := Lib.hid (fun c w => IsDigit_any c w)
  have Hp := Lib.hid (parseL_eq a)
  obtain ⟨d, hd⟩ : ∃ d, d = restB a := ⟨_, rfl⟩
  obtain ⟨neg, hneg⟩ : ∃ b, b = minusB a := ⟨_, rfl⟩
  rw [← hd, ← hneg] at HC Hp
  clear hd hneg
  by_cases hw : wrongD neg d
  · have Hn := Lib.hid (Hp.out.trans (parseD_wrong hw))
    have Hpost := Lib.hid (show ∀ w', Below w.heap.size w w' → ParsePost a n w (.panicked (flt 1 n)) w' from fun w' hb => by unfold ParsePost; rw [Hn.out]; exact ⟨rfl, hb⟩)
    have hcase : d = [] ∨ (d ≠ [] ∧ 9 < d.length) ∨ (d ≠ [] ∧ ¬ 9 < d.length ∧ d.head? = some 48 ∧ 1 < d.length) ∨ (d ≠ [] ∧ ¬ 9 < d.length ∧ d.head? = some 48 ∧ ¬ 1 < d.length ∧ neg = true) := by
      by_cases h0 : d = [] <;> by_cases h9 : 9 < d.length <;> by_cases h1 : 1 < d.length <;> simp_all [wrongD]
    clear hw Hn
    rcases hcase with rfl | ⟨h0, h9⟩ | ⟨h0, h9, hh, h1⟩ | ⟨h0, h9, hh, h1, rfl⟩
    · have hE : (bz []).toList.isEmpty = true := by rw [bz_toList]; rfl
      go_enter Tryd.func30, Tryd.ntmps30
      go_wp2_with (first
        | (go_at_call 49; refine (HC.out _).mono ?_; rintro e w1 ⟨rfl, rfl⟩)
        | (go_at_call 31; refine (HF.out _).mono ?_; rintro e w1 ⟨rfl, rfl⟩))
      exact ⟨rfl, Hpost.out _ (Below.refl _ _)⟩
    · have hE : (bz d).toList.isEmpty = false := by rw [bz_toList]; cases d <;> simp_all
      have hs9 : (9 : Int) < ((bz d).size : Int) := by rw [bz_size]; omega
      clear h0 h9
      go_enter Tryd.func30, Tryd.ntmps30
      go_wp2_with (first
        | (go_at_call 49; refine (HC.out _).mono ?_; rintro e w1 ⟨rfl, rfl⟩)
        | (go_at_call 31; refine (HF.out _).mono ?_; rintro e w1 ⟨rfl, rfl⟩))
      exact ⟨rfl, Hpost.out _ (Below.refl _ _)⟩
    · have hE : (bz d).toList.isEmpty = false := by rw [bz_toList]; cases d <;> simp_all
      have hs9 : decide ((9 : Int) < ((bz d).size : Int)) = false := by rw [bz_size]; simp; omega
      have hs0 : 0 < (bz d).size := by rw [bz_size]; exact List.length_pos_iff.2 h0
      have h48 : (((bz d)[0].toNat : Int) == 48) = true := by
        cases d with
        | nil => cases hs0
        | cons c r => simp only [List.head?_cons, Option.some.injEq] at hh; subst hh; rfl
      have hs1 : (1 : Int) < ((bz d).size : Int) := by rw [bz_size]; omega
      clear h0 h9 h1 hh
      go_enter Tryd.func30, Tryd.ntmps30
      go_wp2_with (first
        | (go_at_call 49; refine (HC.out _).mono ?_; rintro e w1 ⟨rfl, rfl⟩)
        | (go_at_call 31; refine (HF.out _).mono ?_; rintro e w1 ⟨rfl, rfl⟩))
      exact ⟨rfl, Hpost.out _ (Below.refl _ _)⟩
    · have hE : (bz d).toList.isEmpty = false := by rw [bz_toList]; cases d <;> simp_all
      have hs9 : decide ((9 : Int) < ((bz d).size : Int)) = false := by rw [bz_size]; simp; omega
      have hs0 : 0 < (bz d).size := by rw [bz_size]; exact List.length_pos_iff.2 h0
      have h48 : (((bz d)[0].toNat : Int) == 48) = true := by
        cases d with
        | nil => cases hs0
        | cons c r => simp only [List.head?_cons, Option.some.injEq] at hh; subst hh; rfl
      have hs1 : ¬ ((1 : Int) < ((bz d).size : Int)) := by rw [bz_size]; omega
      clear h0 h9 h1 hh
      go_enter Tryd.func30, Tryd.ntmps30
      go_wp2_with (first
        | (go_at_call 49; refine (HC.out _).mono ?_; rintro e w1 ⟨rfl, rfl⟩)
        | (go_at_call 31; refine (HF.out _).mono ?_; rintro e w1 ⟨rfl, rfl⟩))
      exact ⟨rfl, Hpost.out _ (Below.refl _ _)⟩
  · have Hn := Lib.hid (Hp.out.trans (parseD_ok hw))
    have h0 : d ≠ [] := fun e => hw (.inl e)
    have h9 : d.length ≤ 9 := by
      rcases Nat.lt_or_ge 9 d.length with h | h
      · exact absurd (.inr (.inl h)) hw
      · exact h
    have hE : (bz d).toList.isEmpty = false := by rw [bz_toList]; cases d <;> simp_all
    have hs9 : decide ((9 : Int) < ((bz d).size : Int)) = false := by rw [bz_size]; simp; omega
    have hs0 : 0 < (bz d).size := by rw [bz_size]; exact List.length_pos_iff.2 h0
    have hcase : ∃ b : Bool, (((bz d)[0].toNat : Int) == 48) = b ∧ (b = true → decide ((1 : Int) < ((bz d).size : Int)) = false ∧ neg = false) := by
      refine ⟨_, rfl, fun hb => ?_⟩
      have hh : d.head? = some 48 := by
        cases d with
        | nil => cases hs0
        | cons c r =>
          have : (c.toNat : Int) = 48 := beq_iff_eq.1 hb
          have : c = 48 := UInt8.toNat_inj.1 (by show c.toNat = 48; omega)
          rw [this]; rfl
      refine ⟨decide_eq_false fun h1 => hw (.inr (.inr ⟨hh, .inl (by rw [bz_size] at h1; omega)⟩)), ?_⟩
      cases hneg : neg with
      | false => rfl
      | true => exact absurd (.inr (.inr ⟨hh, .inr hneg⟩)) hw
    obtain ⟨b, h48, hb⟩ := hcase
    have hl9 := Lib.hid h9
    clear hw h0 h9
    have hcv := run_bytes_of_string (P := Tryd.prog) w 9 80 5 (bz d) Tryd.underlying9 Tryd.underlying80 Tryd.underlying5
    obtain ⟨HB, HX⟩ := bytes_startD w d (grownCap w (bz d).size 0 5) 5
    replace HB := Lib.hid HB
    replace HX := Lib.hid HX
    generalize grownCap w (bz d).size 0 5 = cap at hcv HB HX
    generalize (w.drew.alloc (.cells (bytesRow (bz d) cap) 5 ((bytesRow (bz d) cap).size, (bytesRow (bz d) cap).size + 1))) = w2 at hcv HB HX
    have Hn' := Lib.hid (show ∀ w', Below w.heap.size w w' → d.all digU = false → ParsePost a n w (.panicked (flt 1 n)) w' from fun w' hb h => by unfold ParsePost; rw [Hn.out, h]; exact ⟨rfl, hb⟩)
    have Hy := Lib.hid (show ∀ w', Below w.heap.size w w' → d.all digU = true → ParsePost a n w (.returned (.int .i64 (if neg then -(numOf d : Int) else (numOf d : Int)))) w' from fun w' hb h => by unfold ParsePost; rw [Hn.out, h]; exact ⟨rfl, hb⟩)
    have Hlt := Lib.hid (fun k (hk : k ≤ d.length) (h : (d.take k).all digU = true) => Nat.lt_of_lt_of_le (numOf_lt k hk h) (Nat.pow_le_pow_right (n := 10) (by omega) (show k ≤ 9 by have := hl9.out; omega)))
    obtain ⟨R, hR⟩ : ∃ R, R = w.heap.size := ⟨_, rfl⟩
    rw [← hR] at hcv HX
    have HR := Lib.hid hR
    clear Hn hR Hp
    cases b
    all_goals
      try have hs1 := (hb rfl).1
      try obtain rfl := (hb rfl).2
      clear hb
      go_enter Tryd.func30, Tryd.ntmps30
      go_wp2_with (first
        | (go_at_call 49; refine (HC.out _).mono ?_; rintro e w1 ⟨rfl, rfl⟩)
        | (go_at_call 31; refine (HF.out _).mono ?_; rintro e w1 ⟨rfl, rfl⟩))
      go_loopw [40, 7] (fun iv nv wr => ∃ k : Nat, k ≤ d.length ∧ iv = .int .i64 k ∧ nv = .int .i64 (numOf (d.take k) : Nat) ∧ Hid ((d.take k).all digU = true) ∧ wr = w2) (fun iv _ _ => d.length - (intOf iv).toNat)
      case atStart => exact ⟨0, Nat.zero_le _, rfl, rfl, rfl, rfl⟩
      case round =>
        obtain ⟨k, hk, rfl, rfl, HA, rfl⟩ := hrel
        by_cases hlt : k < d.length
        · have hc := HX.out k hlt
          have hks : (k : Int) < ((bz d).size : Int) := by rw [bz_size]; omega
          have hk9 : k < 9 := by have := hl9.out; omega
          have HT := Lib.hid (numOf_take hlt)
          have HE := Lib.hid (show (d.take (k + 1)).all digU = ((d.take k).all digU && digU d[k]) by rw [List.take_succ_eq_append_getElem hlt, List.all_append]; simp)
          have Hdg := Lib.hid (dig_eqU d[k])
          have HN := Lib.hid (show digU d[k] = false → d.all digU = false from fun h => List.all_eq_false.2 ⟨d[k], List.getElem_mem hlt, by rw [h]; simp⟩)
          have hx := d[k].toNat_lt
          have hn9 := Hlt.out k hk HA.out
          obtain ⟨c, hcc⟩ : ∃ c, c = d[k] := ⟨_, rfl⟩
          rw [← hcc] at hc HT HE Hdg HN hx
          clear hcc
          obtain ⟨m, hm⟩ : ∃ m, m = numOf (d.take k) := ⟨_, rfl⟩
          rw [← hm] at HT hn9 ⊢
          clear hm
          obtain ⟨x, hxc⟩ : ∃ x, x = c.toNat := ⟨_, rfl⟩
          rw [← hxc] at hc HT hx Hdg
          cases hdc : digU c with
          | false =>
            rw [hdc] at Hdg
            have Hf := Lib.hid (HN.out hdc)
            clear hdc hxc
            go_wp2_with (first
              | (go_at_call 50; refine (HD.out _ _).mono ?_; rintro e w1 ⟨rfl, rfl⟩; rw [Hdg.out])
              | (go_at_call 31; refine (HF.out _).mono ?_; rintro e w1 ⟨rfl, rfl⟩))
            exact ⟨rfl, Hn'.out _ HB.out Hf.out⟩
          | true =>
            rw [hdc] at Hdg
            have h2 : 48 ≤ x ∧ x ≤ 57 := by
              unfold digU at hdc
              simp only [Bool.and_eq_true, decide_eq_true_eq] at hdc
              omega
            have HE2 := Lib.hid (show (d.take (k + 1)).all digU = true by rw [HE.out, HA.out, hdc]; rfl)
            have e1 : IntKind.u8.wrap ((x : Int) - 48) = (x : Int) - 48 := by rw [IntKind.wrap_u8]; omega
            have e2 : IntKind.i64.wrap ((x : Int) - 48) = (x : Int) - 48 := by rw [IntKind.wrap_i64]; omega
            have e3 : IntKind.i64.wrap (10 * (m : Int)) = 10 * (m : Int) := by rw [IntKind.wrap_i64]; omega
            have e4 : IntKind.i64.wrap (10 * (m : Int) + ((x : Int) - 48)) = 10 * (m : Int) + ((x : Int) - 48) := by rw [IntKind.wrap_i64]; omega
            clear hdc hxc
            go_wp2_with (go_at_call 50; refine (HD.out _ _).mono ?_; rintro e w1 ⟨rfl, rfl⟩; rw [Hdg.out])
            go_roundw
            case rel => exact ⟨k + 1, by omega, by go_num, by rw [HT.out]; simp; omega, HE2, trivial⟩
            case measure => simp [intOf]; omega
        · obtain rfl : k = d.length := by omega
          have hks : ¬ (((d.length : Nat) : Int) < ((bz d).size : Int)) := by rw [bz_size]; omega
          have HAll := Lib.hid (show d.all digU = true by have := HA.out; rwa [List.take_length] at this)
          have HN := Lib.hid (show numOf (d.take d.length) = numOf d by rw [List.take_length])
          have Hp := Lib.hid (Hy.out _ HB.out HAll.out)
          have hn9 := Hlt.out _ hk HA.out
          rw [HN.out] at hn9 ⊢
          have ew : IntKind.i64.wrap (-(numOf d : Int)) = -(numOf d : Int) := by rw [IntKind.wrap_i64]; omega
          first
            | (cases neg
               all_goals
                 go_wp2
                 go_ret
                 exact Hp.out)
            | (go_wp2
               go_ret
               exact Hp.out)
end Go.Proofs.YtgfbmidpiamkhaaDoor

namespace Go.Proofs.YtgfbmidpiamkhaaDoor
open Go.RowKit
namespace D28

/-- clauses that are read: no more than m numbers have been -/
structure GOk (g : GS) (m : Nat) : Prop where
  len : g.1.length ≤ m
  row : ∀ c ∈ g.1, c.length ≤ m
  ne : g.2 = true → g.1 ≠ []
theorem GOk.start : GOk ([], false) 0 := ⟨Nat.le_refl _, by simp, by simp⟩
theorem GOk.more {g : GS} {m n : Nat} (h : GOk g m) (hn : m ≤ n) : GOk g n := ⟨Nat.le_trans h.len hn, fun c hc => Nat.le_trans (h.row c hc) hn, h.ne⟩
theorem pushLast_ok {out : List (List Int)} {n : Int} {m : Nat} (hl : out.length ≤ m + 1) (hr : ∀ c ∈ out, c.length ≤ m) (hne : out ≠ []) : (pushLast out n).length ≤ m + 1 ∧ (∀ c ∈ pushLast out n, c.length ≤ m + 1) ∧ pushLast out n ≠ [] := by
  obtain ⟨r, l, rfl⟩ : ∃ r l, out = r ++ [l] := ⟨out.dropLast, out.getLast hne, (List.dropLast_concat_getLast _).symm⟩
  have e : pushLast (r ++ [l]) n = r ++ [l ++ [n]] := by simp [pushLast]
  rw [e]
  refine ⟨by simpa using hl, fun c hc => ?_, by simp⟩
  simp only [List.mem_append, List.mem_singleton] at hc
  rcases hc with hc | rfl
  · have := hr c (by simp [hc]); omega
  · have := hr l (by simp); simp; omega
theorem GOk.take {most vars : Int} {g : GS} {m : Nat} (h : GOk g m) (n : Int) : GOk (takeG most vars g n).1 (m + 1) := by
  unfold takeG
  split
  · exact h.more (by omega)
  · have hout : (if g.2 = true then g.1 else g.1 ++ [[]]).length ≤ m + 1 ∧ (∀ c ∈ (if g.2 = true then g.1 else g.1 ++ [[]]), c.length ≤ m) ∧ (if g.2 = true then g.1 else g.1 ++ [[]]) ≠ [] := by
      by_cases h2 : g.2 = true
      · rw [if_pos h2]; exact ⟨by have := h.len; omega, h.row, h.ne h2⟩
      · rw [if_neg h2]
        refine ⟨by have := h.len; simp; omega, fun c hc => ?_, by simp⟩
        simp only [List.mem_append, List.mem_singleton] at hc
        rcases hc with hc | rfl
        · exact h.row c hc
        · simp
    obtain ⟨h1, h2, h3⟩ := hout
    dsimp only
    split
    · exact ⟨h1, fun c hc => Nat.le_trans (h2 c hc) (by omega), by simp⟩
    · split
      · exact ⟨h1, fun c hc => Nat.le_trans (h2 c hc) (by omega), fun _ => h3⟩
      · obtain ⟨q1, q2, q3⟩ := pushLast_ok (n := n) h1 h2 h3
        exact ⟨q1, q2, fun _ => q3⟩
theorem wordsG_cons (most vars : Int) (g : GS) (w : Bs) (ws : List Bs) : wordsG most vars g (w :: ws) = match parseL w with
    | none => (g, 1)
    | some n => match takeG most vars g n with
      | (g', 0) => wordsG most vars g' ws
      | (g', k + 1) => (g', k + 1) := by rw [wordsG]; rfl
theorem linesG_cons (most vars : Int) (g : GS) (n : Nat) (ws : List Bs) (r : List Ln) : linesG most vars g ((n, ws) :: r) = match wordsG most vars g ws with
    | (g', 0) => linesG most vars g' r
    | (g', k + 1) => (g', k + 1, n) := by rw [linesG]; rfl
theorem wordsG_append (most vars : Int) : ∀ (a b : List Bs) (g : GS), wordsG most vars g (a ++ b) = match wordsG most vars g a with
    | (g', 0) => wordsG most vars g' b
    | (g', k + 1) => (g', k + 1)
  | [], b, g => rfl
  | w :: a, b, g => by
    rw [List.cons_append, wordsG_cons, wordsG_cons]
    cases parseL w with
    | none => rfl
    | some n =>
      dsimp only
      rcases h : takeG most vars g n with ⟨g', k⟩
      cases k with
      | zero => exact wordsG_append most vars a b g'
      | succ k => rfl
theorem wordsG_one (most vars : Int) (g : GS) (w : Bs) : wordsG most vars g [w] = match parseL w with
    | none => (g, 1)
    | some n => takeG most vars g n := by
  unfold wordsG
  cases parseL w with
  | none => rfl
  | some n =>
    dsimp only
    rcases h : takeG most vars g n with ⟨g', k⟩
    cases k with
    | zero => rfl
    | succ k => rfl
theorem wordsG_succ {most vars : Int} {ws : List Bs} {g g' : GS} {j : Nat} (hj : j < ws.length) (h : wordsG most vars g (ws.take j) = (g', 0)) : wordsG most vars g (ws.take (j + 1)) = match parseL ws[j] with
    | none => (g', 1)
    | some n => takeG most vars g' n := by
  rw [List.take_succ_eq_append_getElem hj, wordsG_append, h, ← wordsG_one]
theorem wordsG_bad {most vars : Int} {ws : List Bs} {g g' : GS} {j k : Nat} (h : wordsG most vars g (ws.take j) = (g', k + 1)) : wordsG most vars g ws = (g', k + 1) := by
  conv => lhs; rw [← List.take_append_drop j ws]
  rw [wordsG_append, h]
theorem linesG_append (most vars : Int) : ∀ (a b : List Ln) (g : GS), linesG most vars g (a ++ b) = match linesG most vars g a with
    | (g', 0, _) => linesG most vars g' b
    | (g', k + 1, n) => (g', k + 1, n)
  | [], b, g => rfl
  | (n, ws) :: a, b, g => by
    rw [List.cons_append, linesG_cons, linesG_cons]
    rcases h : wordsG most vars g ws with ⟨g', k⟩
    cases k with
    | zero => exact linesG_append most vars a b g'
    | succ k => rfl
theorem linesG_one (most vars : Int) (g : GS) (n : Nat) (ws : List Bs) : linesG most vars g [(n, ws)] = match wordsG most vars g ws with
    | (g', 0) => (g', 0, 0)
    | (g', k + 1) => (g', k + 1, n) := by
  unfold linesG
  rcases h : wordsG most vars g ws with ⟨g', k⟩
  cases k with
  | zero => rfl
  | succ k => rfl
theorem linesG_succ {most vars : Int} {L : List Ln} {g g' : GS} {k : Nat} (hk : k < L.length) (h : linesG most vars g (L.take k) = (g', 0, 0)) : linesG most vars g (L.take (k + 1)) = match wordsG most vars g' L[k].2 with
    | (g2, 0) => (g2, 0, 0)
    | (g2, c + 1) => (g2, c + 1, L[k].1) := by
  rw [List.take_succ_eq_append_getElem hk, linesG_append, h]
  exact linesG_one most vars g' L[k].1 L[k].2
theorem linesG_bad {most vars : Int} {L : List Ln} {g g' : GS} {k c n : Nat} (h : linesG most vars g (L.take k) = (g', c + 1, n)) : linesG most vars g L = (g', c + 1, n) := by
  conv => lhs; rw [← List.take_append_drop k L]
  rw [linesG_append, h]
theorem parseL_range {w : Bs} {n : Int} (h : parseL w = some n) : -999999999 ≤ n ∧ n ≤ 999999999 := by
  have key : ∀ neg d, parseD neg d = some n → -999999999 ≤ n ∧ n ≤ 999999999 := by
    intro neg d h
    unfold parseD at h
    split at h
    · cases h
    · split at h
      · rename_i h1 h2
        have hl : d.length ≤ 9 := by
          rcases Nat.lt_or_ge 9 d.length with h9 | h9
          · exact absurd (.inr (.inl h9)) h1
          · exact h9
        have := numOf_lt d.length (Nat.le_refl _) (by rw [List.take_length]; exact h2)
        rw [List.take_length] at this
        have h10 : 10 ^ d.length ≤ 10 ^ 9 := Nat.pow_le_pow_right (by omega) hl
        have e9 : (10 : Nat) ^ 9 = 1000000000 := rfl
        simp only [Option.some.injEq] at h
        split at h <;> omega
      · cases h
  unfold parseL at h
  split at h
  · exact key _ _ h
  · exact key _ _ h
theorem emits_words {n : Nat} {ps : List Bs} {x : Ln} (h : x ∈ emits n ps) : ∃ p ∈ ps, x.2 = wordsOf p := by
  induction ps generalizing n with
  | nil => cases h
  | cons p ps ih =>
    simp only [emits, List.mem_append] at h
    rcases h with h | h
    · obtain ⟨m, V⟩ := x
      exact ⟨p, by simp, (mem_emitL h).2.1⟩
    · obtain ⟨q, hq, e⟩ := ih h
      exact ⟨q, by simp [hq], e⟩
theorem emits_count (ps : List Bs) : ∀ n, (emits n ps).length ≤ ps.length := by
  induction ps with
  | nil => simp [emits]
  | cons p ps ih =>
    intro n
    have := ih (n + 1)
    simp only [emits, List.length_append, List.length_cons]
    have : (emitL n (wordsOf p)).length ≤ 1 := by unfold emitL; split <;> simp
    omega
theorem lines_count (a : Bs) : (linesOf a).length ≤ a.length + 1 := by
  rw [linesOf_eq]
  have := emits_count (cut10 a) 1
  have h2 := cut10_len a
  have h3 := List.count_le_length (a := (10 : UInt8)) (l := a)
  omega
theorem lines_words {a : Bs} {x : Ln} (h : x ∈ linesOf a) : x.2.length ≤ a.length + 1 ∧ x.2 ≠ [] := by
  rw [linesOf_eq] at h
  obtain ⟨p, hp, e⟩ := emits_words h
  have := words_len p
  have h2 := cut10_mem hp
  refine ⟨by rw [e]; omega, ?_⟩
  have hc : ∀ n, x ∈ emits n (cut10 a) → countsB x.2 = true := by
    intro n
    generalize cut10 a = ps
    induction ps generalizing n with
    | nil => intro h; cases h
    | cons q ps ih =>
      intro h
      simp only [emits, List.mem_append] at h
      rcases h with h | h
      · obtain ⟨m, V⟩ := x
        have := mem_emitL h
        rw [this.2.1]; exact this.2.2
      · exact ih _ h
  exact counts_ne (hc 1 h)
end D28
end Go.Proofs.YtgfbmidpiamkhaaDoor

namespace Go.Proofs.YtgfbmidpiamkhaaDoor
namespace D28
def satB : Bs := [83, 65, 84, 73, 83, 70, 73, 65, 66, 76, 69]
def unsatB : Bs := [85, 78, 83, 65, 84, 73, 83, 70, 73, 65, 66, 76, 69]
def unkB : Bs := [85, 78, 75, 78, 79, 87, 78]
def endB (b : Bs) : Nat := if b = satB then 1 else if b = unsatB then 2 else if b = unkB then 3 else 0
def endW (W : List Bs) : Nat := match W with
  | [a, b] => if a = [115] then endB b else 0
  | _ => 0
def tstep (o : Option (List Bool)) (w : Bs) : Option (List Bool) := match o, parseL w with
  | some l, some n => if n = (l.length : Int) + 1 ∨ n = -((l.length : Int) + 1) then some (l ++ [decide (0 < n)]) else none
  | _, _ => none
def tbody (W : List Bs) : List Bs := (W.drop 1).take (W.length - 2)
def tfold (W : List Bs) : Option (List Bool) := W.foldl tstep (some [])
def badV (W : List Bs) : Prop := W.length < 2 ∨ W[0]? ≠ some [118] ∨ W[W.length - 1]? ≠ some [48]
instance (W : List Bs) : Decidable (badV W) := by unfold badV; infer_instance
def truthsW (W : List Bs) : Option (List Bool) := if badV W then none else tfold (tbody W)
structure AS where
  e : Nat
  t : Option (List Bool)
def AS.start : AS := ⟨0, none⟩
def astep (s : AS) (W : List Bs) : Option AS :=
  if s.e = 0 then (if endW W = 0 then none else some ⟨endW W, s.t⟩)
  else if s.e = 1 ∧ s.t = none then (truthsW W).map fun t => ⟨1, some t⟩
  else none
/-- the lines, one behind the other; the line that is wrong (0: none) -/
def linesA : AS → List Ln → Option AS × Nat
  | s, [] => (some s, 0)
  | s, (n, W) :: r => match astep s W with
    | none => (none, n)
    | some s' => linesA s' r
def openA (s : AS) : Prop := s.e = 0 ∨ (s.e = 1 ∧ s.t = none)
instance (s : AS) : Decidable (openA s) := by unfold openA; infer_instance
/-- what a text answers, or the line that is wrong -/
def aR (a : Bs) : Option (Nat × List Bool) × Nat := match linesA .start (linesOf a) with
  | (some s, _) => if openA s then (none, endOf a) else (some (s.e, s.t.getD []), 0)
  | (none, n) => (none, n)

theorem tfold_succ {W : List Bs} {k : Nat} (h : k < W.length) : tfold (W.take (k + 1)) = tstep (tfold (W.take k)) W[k] := by
  unfold tfold
  rw [List.take_succ_eq_append_getElem h, List.foldl_append]; rfl
theorem tstep_none (ws : List Bs) : ws.foldl tstep none = none := by
  induction ws with
  | nil => rfl
  | cons w ws ih => exact ih
theorem tfold_bad {W : List Bs} {k : Nat} (h : tfold (W.take k) = none) : tfold W = none := by
  unfold tfold at h ⊢
  conv => lhs; rw [← List.take_append_drop k W]
  rw [List.foldl_append, h, tstep_none]
theorem tfold_len {W : List Bs} : ∀ {k : Nat} {l : List Bool}, k ≤ W.length → tfold (W.take k) = some l → l.length = k
  | 0, l, _, h => by simp [tfold] at h; subst h; rfl
  | k + 1, l, hk, h => by
    rw [tfold_succ (show k < W.length from hk)] at h
    cases h0 : tfold (W.take k) with
    | none => rw [h0] at h; simp [tstep] at h
    | some l0 =>
      have ih := tfold_len (by omega) h0
      rw [h0] at h
      unfold tstep at h
      split at h
      · split at h
        · cases h
          rename_i e _ _
          cases e; simp [ih]
        · cases h
      · cases h
theorem tbody_len (W : List Bs) : (tbody W).length = W.length - 2 := by unfold tbody; simp; omega
theorem tbody_get {W : List Bs} {k : Nat} (h : k < (tbody W).length) : (tbody W)[k] = W[k + 1]'(by rw [tbody_len] at h; omega) := by
  unfold tbody
  simp
theorem linesA_append : ∀ (a b : List Ln) (s : AS), linesA s (a ++ b) = match linesA s a with
    | (some s', _) => linesA s' b
    | (none, n) => (none, n)
  | [], b, s => rfl
  | (n, W) :: a, b, s => by
    rw [List.cons_append, linesA, linesA]
    cases h : astep s W with
    | some s' => exact linesA_append a b s'
    | none => rfl
theorem linesA_succ {L : List Ln} {s s' : AS} {k : Nat} (hk : k < L.length) (h : linesA s (L.take k) = (some s', 0)) : linesA s (L.take (k + 1)) = match astep s' L[k].2 with
    | none => (none, L[k].1)
    | some s2 => (some s2, 0) := by
  rw [List.take_succ_eq_append_getElem hk, linesA_append, h]
  show linesA s' [L[k]] = _
  rw [show [L[k]] = [(L[k].1, L[k].2)] from rfl, linesA]
  cases astep s' L[k].2 <;> rfl
theorem linesA_bad {L : List Ln} {s : AS} {k n : Nat} (h : linesA s (L.take k) = (none, n)) : linesA s L = (none, n) := by
  conv => lhs; rw [← List.take_append_drop k L]
  rw [linesA_append, h]
theorem linesA_at : ∀ {L : List Ln} {s : AS} {n : Nat}, linesA s L = (none, n) → ∃ x ∈ L, x.1 = n
  | [], _, _, h => by cases h
  | (m, W) :: r, s, n, h => by
    rw [linesA] at h
    cases hs : astep s W with
    | none => rw [hs] at h; simp only [Prod.mk.injEq, true_and] at h; exact ⟨(m, W), by simp, h⟩
    | some s' =>
      rw [hs] at h
      obtain ⟨x, hx, e⟩ := linesA_at h
      exact ⟨x, by simp [hx], e⟩
theorem linesA_zero : ∀ {L : List Ln} {s s' : AS} {n : Nat}, linesA s L = (some s', n) → n = 0
  | [], _, _, _, h => by cases h; rfl
  | (m, W) :: r, s, s', n, h => by
    rw [linesA] at h
    cases hs : astep s W with
    | none => rw [hs] at h; simp at h
    | some s2 => rw [hs] at h; exact linesA_zero h
end D28
end Go.Proofs.YtgfbmidpiamkhaaDoor

namespace Go.Proofs.YtgfbmidpiamkhaaDoor
open Go.RowKit
open C01 D28

def EndPost (W : List Bs) (n : Int) (w : World) (e : Ending) (w' : World) : Prop := (if endW W = 0 then e = .panicked (flt 1 n) else e = .returned (.int .i64 (endW W : Nat))) ∧ w' = w
theorem satB_eq : (⟨#[83, 65, 84, 73, 83, 70, 73, 65, 66, 76, 69]⟩ : ByteArray) = bz satB := rfl
theorem unsatB_eq : (⟨#[85, 78, 83, 65, 84, 73, 83, 70, 73, 65, 66, 76, 69]⟩ : ByteArray) = bz unsatB := rfl
theorem unkB_eq : (⟨#[85, 78, 75, 78, 79, 87, 78]⟩ : ByteArray) = bz unkB := rfl
theorem sB_eq : (⟨#[115]⟩ : ByteArray) = bz [115] := rfl
theorem eq_yes {x y : Bs} (h : x = y) : ((bz x).toList == (bz y).toList) = true := by rw [bz_beq]; simpa using h
theorem eq_no {x y : Bs} (h : x ≠ y) : ((bz x).toList == (bz y).toList) = false := by rw [bz_beq]; simpa using h
set_option maxRecDepth 100000 in
set_option maxHeartbeats 4000000 in
theorem end_any (W : List Bs) (v : Value) (n : Int) (w : World) (hW : WAt w v W) : Calls Tryd.prog 41 #[v, .int .i64 n] w (EndPost W n w) := by
  have HF := Lib.hid (fun w => fail_any 1 n w)
  obtain ⟨g, cap, cur, rfl, hg, hcs⟩ := hW
  have HP0 := Lib.hid (show endW W = 0 → EndPost W n w (.panicked (flt 1 n)) w from fun h => ⟨by rw [if_pos h], rfl⟩)
  have HP1 := Lib.hid (show endW W ≠ 0 → EndPost W n w (.returned (.int .i64 (endW W : Nat))) w from fun h => ⟨by rw [if_neg h], rfl⟩)
  by_cases h2 : W.length = 2
  · obtain ⟨x, y, rfl⟩ : ∃ x y, W = [x, y] := by
      match W, h2 with
      | [x, y], _ => exact ⟨x, y, rfl⟩
    have c0 := (cell_of_row _ _ 0 _ _ _ hg).trans (hcs 0 (by simp))
    have c1 := (cell_of_row _ _ 1 _ _ _ hg).trans (hcs 1 (by simp))
    dsimp only [List.getElem_cons_zero, List.getElem_cons_succ] at c0 c1
    clear hcs hg h2
    by_cases hs : x = [115]
    · have hs1 := eq_yes hs
      have he : endW [x, y] = endB y := by simp [endW, hs]
      rw [he] at HP0 HP1
      clear hs he
      by_cases e1 : y = satB
      · have HQ := Lib.hid (HP1.out (by simp [endB, e1]))
        rw [show endB y = 1 by simp [endB, e1]] at HQ
        have k1 := eq_yes e1
        clear e1 HP0 HP1
        go_enter Tryd.func41, Tryd.ntmps41
        rw [satB_eq, unsatB_eq, unkB_eq, sB_eq]
        go_wp2
        go_ret
        exact HQ.out
      have k1 := eq_no e1
      by_cases e2 : y = unsatB
      · have HQ := Lib.hid (HP1.out (by rw [endB, if_neg e1, if_pos e2]; decide))
        rw [show endB y = 2 by rw [endB, if_neg e1, if_pos e2]] at HQ
        have k2 := eq_yes e2
        clear e1 e2 HP0 HP1
        go_enter Tryd.func41, Tryd.ntmps41
        rw [satB_eq, unsatB_eq, unkB_eq, sB_eq]
        go_wp2
        go_ret
        exact HQ.out
      have k2 := eq_no e2
      by_cases e3 : y = unkB
      · have HQ := Lib.hid (HP1.out (by rw [endB, if_neg e1, if_neg e2, if_pos e3]; decide))
        rw [show endB y = 3 by rw [endB, if_neg e1, if_neg e2, if_pos e3]] at HQ
        have k3 := eq_yes e3
        clear e1 e2 e3 HP0 HP1
        go_enter Tryd.func41, Tryd.ntmps41
        rw [satB_eq, unsatB_eq, unkB_eq, sB_eq]
        go_wp2
        go_ret
        exact HQ.out
      have k3 := eq_no e3
      have HQ := Lib.hid (HP0.out (by rw [endB, if_neg e1, if_neg e2, if_neg e3]))
      clear e1 e2 e3 HP0 HP1
      go_enter Tryd.func41, Tryd.ntmps41
      rw [satB_eq, unsatB_eq, unkB_eq, sB_eq]
      go_wp2_with (go_at_call 31; refine (HF.out _).mono ?_; rintro e w1 ⟨rfl, rfl⟩)
      exact ⟨rfl, HQ.out⟩
    · have hs1 := eq_no hs
      have HQ := Lib.hid (HP0.out (by simp [endW, hs]))
      clear hs HP0 HP1
      go_enter Tryd.func41, Tryd.ntmps41
      rw [satB_eq, unsatB_eq, unkB_eq, sB_eq]
      go_wp2_with (go_at_call 31; refine (HF.out _).mono ?_; rintro e w1 ⟨rfl, rfl⟩)
      exact ⟨rfl, HQ.out⟩
  · have hl2 : ((W.length : Int) == 2) = false := by rw [beq_eq_false_iff_ne]; omega
    have HQ := Lib.hid (HP0.out (by
      unfold endW
      split
      · exact absurd rfl h2
      · rfl))
    clear h2 HP0 HP1 hcs hg
    go_enter Tryd.func41, Tryd.ntmps41
    go_wp2_with (go_at_call 31; refine (HF.out _).mono ?_; rintro e w1 ⟨rfl, rfl⟩)
    exact ⟨rfl, HQ.out⟩
end Go.Proofs.YtgfbmidpiamkhaaDoor
