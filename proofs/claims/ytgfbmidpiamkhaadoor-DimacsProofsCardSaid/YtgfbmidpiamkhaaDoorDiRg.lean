/- A range over a function whose rounds may end in a panic; what a round is handed may lie in memory. No function of the program is in sight. -/
import Derived.Test.YtgfbmidpiamkhaaDoorBase
import Derived.RangeFuncNested
import Derived.RangeFuncCalls
import Derived.RangeFuncLeaves
namespace Go.Proofs.YtgfbmidpiamkhaaDoor
open Go.RowKit

/-- The blocks of which p speaks lie as they lay. -/
structure Kp (p : Nat → Obj → Prop) (W W' : World) : Prop where
  os : W'.os = W.os
  tape : W'.tape = W.tape
  output : W'.output = W.output
  size : W.heap.size ≤ W'.heap.size
  same : ∀ b o, W.heap[b]? = some o → p b o → W'.heap[b]? = some o
theorem Kp.refl (p : Nat → Obj → Prop) (W : World) : Kp p W W := ⟨rfl, rfl, rfl, Nat.le_refl _, fun _ _ h _ => h⟩
theorem Kp.trans {p : Nat → Obj → Prop} {A B C : World} (h : Kp p A B) (k : Kp p B C) : Kp p A C :=
  ⟨k.os.trans h.os, k.tape.trans h.tape, k.output.trans h.output, Nat.le_trans h.size k.size, fun b o hb ho => k.same b o (h.same b o hb ho) ho⟩
theorem Kp.sub {p q : Nat → Obj → Prop} {A B : World} (h : Kp p A B) (hq : ∀ b o, q b o → p b o) : Kp q A B :=
  ⟨h.os, h.tape, h.output, h.size, fun b o hb ho => h.same b o hb (hq b o ho)⟩
theorem Kp.of_below {p : Nat → Obj → Prop} {A B : World} (h : Below A.heap.size A B) : Kp p A B :=
  ⟨h.os, h.tape, h.output, h.size, fun b _ hb _ => (h.block b (Array.getElem?_eq_some_iff.1 hb).1).trans hb⟩
theorem Kp.putObj {p : Nat → Obj → Prop} (W : World) (l : Nat) (o : Obj) (hn : ∀ x, W.heap[l]? = some x → ¬ p l x) : Kp p W (W.putObj l o) :=
  ⟨rfl, rfl, rfl, by simp, fun b x hb hx => by
    by_cases e : b = l
    · subst e; exact absurd hx (hn x hb)
    · exact (World.putObj_heap_other e).trans hb⟩
theorem Kp.setCell {p : Nat → Obj → Prop} (W : World) (a : Addr) (v : Value) (hn : ∀ x, W.heap[a.block]? = some x → ¬ p a.block x) : Kp p W (W.setCell a v) :=
  ⟨rfl, rfl, rfl, by simp, fun b x hb hx => by
    by_cases e : b = a.block
    · subst e; exact absurd hx (hn x hb)
    · exact (Below.heap_setCell W a v b e).trans hb⟩
theorem Kp.grown {p : Nat → Obj → Prop} {W W' : World} {row : Option Nat} (hg : W.grownBy W' row) (hn : ∀ r x, row = some r → W.heap[r]? = some x → ¬ p r x) : Kp p W W' :=
  ⟨hg.os, hg.tape, hg.output, hg.size, fun b x hb hx => by
    refine (hg.block b (Array.getElem?_eq_some_iff.1 hb).1 ?_).trans hb
    intro e; exact hn b x e.symm hb hx⟩
theorem Kp.drew {p : Nat → Obj → Prop} {A B : World} (h : Kp p A B) : Kp p A B.drew := ⟨h.os, h.tape, h.output, h.size, h.same⟩
theorem Kp.below {p : Nat → Obj → Prop} {n : Nat} {A B : World} (h : Kp p A B) (hn : n ≤ A.heap.size) (hp : ∀ b o, b < n → A.heap[b]? = some o → p b o) : Below n A B :=
  ⟨h.os, h.tape, h.output, h.size, fun b hb => by
    have hlt : b < A.heap.size := by omega
    have e : A.heap[b]? = some A.heap[b] := Array.getElem?_eq_getElem hlt
    exact (h.same b _ e (hp b _ hb e)).trans e.symm⟩

/-- cells of a type -/
def ofT (t : TypeId) (_ : Nat) : Obj → Prop
  | .cells _ t' _ => t' = t
  | _ => False
/-- cells of a type, and whatever is no cells -/
def noneOr (t : TypeId) (_ : Nat) : Obj → Prop
  | .cells _ t' _ => t' = t
  | _ => True
/-- cells, and whatever lies below n -/
def cellsOr (n : Nat) (b : Nat) : Obj → Prop
  | .cells .. => True
  | _ => b < n
theorem noneOr_ofT {t : TypeId} : ∀ b o, ofT t b o → noneOr t b o := fun _ o h => by cases o <;> simp_all [ofT, noneOr]

section
variable {P : Program}
/-- How a round may end here: on, or in a panic. -/
def roundPostP (P : Program) (l : Nat) (R : Ending → World → Prop) : Exit → Act → World → Prop
  | .normal, _, w => ∃ v w', (Instr.endRound l none).run P w = .ok v w' ∧ R (.returned v) w'
  | .panic c, a, w => a.defers = [] ∧ R (.panicked c) w
  | _, _, _ => False
theorem round_panics {n l : Nat} {f : FuncId} {fn : Func} {tmps : Array Value} {assign body : Code} {w : World} {R : Ending → World → Prop} (hf : P.funcs[f]? = some fn)
    (h : assign.wpIn (Fence.wide.inRound l) n P (Exit.then (fun a₁ w₁ => ∃ w₂, (Instr.beginRound l).run P w₁ = .ok () w₂ ∧ body.wpIn (Fence.wide.inRound l) n P (roundPostP P l R) a₁ w₂) (fun _ _ _ => False)) { tmps := tmps, defers := [] } w) :
    RoundIn Fence.wide n P l f tmps assign body w R := by
  refine ⟨trivial, fun c cs hr => ?_⟩
  let b : Frame := { (default : Frame) with fn := f, kind := .normal, roundOf := some l }
  have hb0 : Frame.round l f tmps assign body .normal = b.atR { tmps := tmps, defers := [] } [.code assign, .beginRound, .code body] := by
    simp [Frame.round, Frame.atR, b]
  have hr' : (Fence.wide.inRound l).room ((c :: cs).length + 1 + n) := hr
  have hF' : (Fence.wide.inRound l).fn b.fn := trivial
  obtain ⟨e, a₁, w₁, hq, harr⟩ := h b [.beginRound, .code body] (c :: cs) rfl hF' hr'
  rw [← hb0] at harr
  cases e with
  | normal =>
    obtain ⟨w₂, hbr, hbody⟩ := hq
    have s1 : StepsIn (Machine.fenced P (Fence.wide.inRound l)) P (lone (b.atR a₁ [.beginRound, .code body]) (c :: cs) w₁) (lone (b.atR a₁ [.code body]) (c :: cs) w₂) :=
      .one (fenced_calm (fr := b.atR a₁ [.beginRound, .code body]) hF' hr' rfl) (stepR_beginRound rfl hbr)
    obtain ⟨e₂, a₂, w₃, hq₂, harr₂⟩ := hbody b [] (c :: cs) rfl hF' hr'
    cases e₂ with
    | normal =>
      obtain ⟨v, w₄, hend, hR⟩ := hq₂
      exact ⟨.returned v, w₄, hR, (StepsIn.trans harr s1).trans (StepsIn.trans harr₂ (.one (fenced_calm (fr := b.atR a₂ []) hF' hr' rfl) (stepR_round_end rfl rfl hend)))⟩
    | panic chain =>
      obtain ⟨hd, hR⟩ := hq₂
      obtain ⟨todo, hs⟩ := harr₂
      have hl : ({ b.atR a₂ todo with mode := .panicking chain } : Frame).leaving P w₃ (.panicked chain) := ⟨rfl, hd, fn, hf⟩
      have hfen : (lone ({ b.atR a₂ todo with mode := .panicking chain } : Frame) (c :: cs) w₃).fenced P (Fence.wide.inRound l) := fenced_leaving hF' hr' hl
      exact ⟨.panicked chain, w₃, hR, (StepsIn.trans harr s1).trans (StepsIn.trans hs (.one hfen (step_leave_panicked hl)))⟩
    | ret => exact hq₂.elim
    | exit id => exact hq₂.elim
    | goto t => exact hq₂.elim
    | outgrown => exact hq₂.elim
  | exit id => exact hq.elim
  | goto t => exact hq.elim
  | ret => exact hq.elim
  | panic chain => exact hq.elim
  | outgrown => exact hq.elim

/-! ### Code of one known function -/
def wpB (P : Program) (f : FuncId) (c : Code) (Q : Exit → Act → World → Prop) (a : Act) (w : World) : Prop :=
  ∀ (b : Frame) (k : List Item) (cs : List Frame), b.roundOf = none → b.fn = f →
    ∃ e a' w', Q e a' w' ∧ ArrivesIn (Machine.fenced P Fence.wide) P (lone (b.atR a (.code c :: k)) cs w) b k cs e a' w'
variable {f : FuncId} {Q : Exit → Act → World → Prop} {a : Act} {w : World}
theorem wpB_of_wp {c : Code} (h : c.wp P Q a w) : wpB P f c Q a w := fun b k cs hro _ => (wpIn_wide (n := 9)).2 h b k cs hro trivial (room_wide _)
theorem wpB_seq {x y : Code} (h : wpB P f x (Exit.then (wpB P f y Q) Q) a w) : wpB P f (Code.seq x y) Q a w := by
  intro b k cs hro hb
  have hF : Fence.wide.fn b.fn := trivial
  have h0 : (lone (b.atR a (.code (.seq x y) :: k)) cs w).fenced P Fence.wide := fenced_wide _ _
  obtain ⟨e, a₁, w₁, hq, harr⟩ := h b (.code y :: k) cs hro hb
  cases e with
  | normal =>
    obtain ⟨e₂, a₂, w₂, hq₂, harr₂⟩ := hq b k cs hro hb
    exact ⟨e₂, a₂, w₂, hq₂, .of_steps (.head h0 stepR_seq harr) harr₂⟩
  | exit id => exact ⟨_, a₁, w₁, hq, .of_steps (.one h0 stepR_seq) (.pass (x := .code y) rfl (fun _ _ => .inl (by simp)) harr)⟩
  | goto l => exact ⟨_, a₁, w₁, hq, .of_steps (.one h0 stepR_seq) (.pass (x := .code y) rfl (fun _ _ => .inl (by simp)) harr)⟩
  | ret => exact ⟨_, a₁, w₁, hq, .of_steps (.one h0 stepR_seq) (.pass (x := .code y) rfl (fun _ _ => .inl (by simp)) harr)⟩
  | panic ch => exact ⟨_, a₁, w₁, hq, .of_steps (.one h0 stepR_seq) (.pass (x := .code y) rfl (fun _ _ => .inl (by simp)) harr)⟩
  | outgrown => exact ⟨_, a₁, w₁, hq, .of_steps (.one h0 stepR_seq) (.pass (x := .code y) rfl (fun _ _ => .inl (by simp)) harr)⟩
theorem wpB_block {id : Nat} {c : Code} (h : wpB P f c (Exit.inBlock id Q) a w) : wpB P f (Code.block id c) Q a w := by
  intro b k cs hro hb
  have h0 : ∀ m : Machine, m.fenced P Fence.wide := fun m => fenced_wide _ _
  obtain ⟨e, a₁, w₁, hq, harr⟩ := h b (.inBlock id :: k) cs hro hb
  cases e with
  | normal => exact ⟨.normal, a₁, w₁, hq, .head (h0 _) stepR_block (StepsIn.trans harr (.one (h0 _) stepR_inBlock))⟩
  | exit id' =>
    by_cases hid : id' = id
    · simp only [Exit.inBlock, hid, if_true] at hq
      exact ⟨.normal, a₁, w₁, hq, .head (h0 _) stepR_block (harr.1 k (by simp [exitTo, hid]))⟩
    · simp only [Exit.inBlock, hid, if_false] at hq
      have this : (id == id') = false := by simp; exact fun h => hid h.symm
      have hx : exitTo id' (.inBlock id :: k) = exitTo id' k := by simp [exitTo, this]
      exact ⟨.exit id', a₁, w₁, hq, fun k' hk => .head (h0 _) stepR_block (harr.1 k' (by rw [hx]; exact hk)),
        fun hr' hk => let ⟨k₁, h1, h2⟩ := harr.2 hr' (by rw [hx]; exact hk); ⟨k₁, h1, .head (h0 _) stepR_block h2⟩⟩
  | goto l =>
    have hx : gotoIn l (.inBlock id :: k) = gotoIn l k := by simp [gotoIn]
    exact ⟨_, a₁, w₁, hq, fun k' hk => .head (h0 _) stepR_block (harr.1 k' (by rw [hx]; exact hk)),
      fun hr' hk => let ⟨k₁, h1, h2⟩ := harr.2 hr' (by rw [hx]; exact hk); ⟨k₁, h1, .head (h0 _) stepR_block h2⟩⟩
  | ret => exact ⟨_, a₁, w₁, hq, .of_steps (.one (h0 _) stepR_block) harr⟩
  | panic ch => exact ⟨_, a₁, w₁, hq, .of_steps (.one (h0 _) stepR_block) harr⟩
  | outgrown => exact ⟨_, a₁, w₁, hq, .of_steps (.one (h0 _) stepR_block) harr⟩
theorem wpB_mono {c : Code} {Q' : Exit → Act → World → Prop} (h : wpB P f c Q a w) (hq : ∀ e a w, Q e a w → Q' e a w) : wpB P f c Q' a w :=
  fun b k cs hro hb => let ⟨e, a', w', q, r⟩ := h b k cs hro hb; ⟨e, a', w', hq _ _ _ q, r⟩
/-- A function's contract from the walk of its body, the mark of a range over a function taken in. -/
theorem calls_of_wpB {fn : Func} {c : Code} {args : Array Value} {R : Ending → World → Prop} (hf : P.funcs[f]? = some fn) (hb : fn.body = some c)
    (h : wpB P f c (bodyPostM Fence.wide 9 P fn R) { tmps := args ++ Array.replicate (fn.ntmps - args.size) undef, defers := [] } w) : Calls P f args w R := by
  refine (callsIn_wide (n := 9)).1 ⟨trivial, fun cs hr => ?_⟩
  have hF : Fence.wide.fn f := trivial
  let b : Frame := { (default : Frame) with fn := f, kind := .normal, roundOf := none }
  have henter : Frame.enter P f args .normal =
      b.atR { tmps := args ++ Array.replicate (fn.ntmps - args.size) undef, defers := [] } [.code c] := by
    simp [Frame.enter, Frame.atR, hf, hb, b]
  obtain ⟨e, a', w', hq, harr⟩ := h b [] cs rfl rfl
  rw [← henter] at harr
  cases e with
  | normal =>
    obtain ⟨e', w'', fr', hR, hs, hfn, hl⟩ := leaves_stepsInM a'.defers .returning w' { b.atR a' [] with mode := .returning } cs rfl rfl rfl hf rfl hF hr hq
    exact ⟨e', w'', fr', hR, ComesIn.of_steps (StepsIn.trans harr (.one (fenced_calm (fr := b.atR a' []) hF hr rfl) (stepR_end rfl))) hs, hfn, hl⟩
  | ret =>
    obtain ⟨todo, hs₀⟩ := harr.1 rfl
    obtain ⟨e', w'', fr', hR, hs, hfn, hl⟩ := leaves_stepsInM a'.defers .returning w' { b.atR a' todo with mode := .returning } cs rfl rfl rfl hf rfl hF hr hq
    exact ⟨e', w'', fr', hR, ComesIn.of_steps hs₀ hs, hfn, hl⟩
  | panic chain =>
    obtain ⟨todo, hs₀⟩ := harr
    obtain ⟨e', w'', fr', hR, hs, hfn, hl⟩ := leaves_stepsInM a'.defers (.panicking chain) w' { b.atR a' todo with mode := .panicking chain } cs rfl rfl rfl hf rfl hF hr hq
    exact ⟨e', w'', fr', hR, ComesIn.of_steps hs₀ hs, hfn, hl⟩
  | exit id => exact hq.elim
  | goto l => exact hq.elim
  | outgrown => exact ⟨.outgrown, w', b, hq, harr.resolve_left (by simp [b]), rfl, trivial⟩

/-- How the body of a round is left: on, or by a panic. -/
def bdPost (t : TypeId) (I : Nat → World → Prop) (Ip : List PanicEntry → World → Prop) (k : Nat) (W : World) : Exit → Act → World → Prop
  | .normal, _, W' => Kp (noneOr t) W W' ∧ I (k + 1) W'
  | .panic c, a, W' => a.defers = [] ∧ Kp (noneOr t) W W' ∧ Ip c W'
  | _, _, _ => False
/-- The contract of an iterator that hands over N rounds, if none panics. Ok: what round k is handed; t: the type of cells that a round leaves as they are. -/
def Gives (P : Program) (n : Nat) (t : TypeId) (gf : Nat) (lb : Array Value) (N : Nat) (Ok : Nat → World → Array Value → Prop) (w : World) : Prop :=
  ∀ (l : Nat) (J : Nat → World → Prop) (Jp : List PanicEntry → World → Prop) (W : World), Below w.heap.size w W → (∀ k A B, J k A → Below A.heap.size A B → J k B) →
    (∀ k W1 args, k < N → J k W1 → Ok k W1 args → YieldAt Fence.wide (n - 1) P l args W1 fun e W' => (e = .returned (.bool true) ∧ J (k + 1) W' ∧ Kp (ofT t) W1 W') ∨ ∃ c, e = .panicked c ∧ Jp c W') →
    J 0 W → CallsIn Fence.wide n P gf (#[.func (.yield l) #[] #[]] ++ lb) W fun e W' => ((∃ v, e = .returned v) ∧ J N W') ∨ ∃ c, e = .panicked c ∧ Jp c W'

theorem wpB_range {t : TypeId} {n : Nat} {fn : Func} {g : Operand} {ps : Array Tmp} {assign body : Code} {gf : Nat} {lb : Array Value} {N : Nat} {Ok : Nat → World → Array Value → Prop} (hf : P.funcs[f]? = some fn)
    (hg : a.eval g = .func (.func gf) #[] lb) (eg : ∀ args w, (callFunc gf args).run P w = .ok (.enter gf args) w) (hseq : Gives P n t gf lb N Ok w)
    (hsz : ∀ k W args, Ok k W args → args.size = ps.size) (hOk : ∀ k A B args, Ok k A args → Kp (cellsOr 0) A B → Ok k B args)
    (I : Nat → World → Prop) (Ip : List PanicEntry → World → Prop) (hI : ∀ k A B, I k A → Kp (cellsOr w.heap.size) A B → I k B) (h0 : I 0 w) (a₁ : Array Value → Act)
    (hassign : ∀ (l : Nat) (args : Array Value) (W : World) (K : Act → World → Prop), args.size = ps.size → K (a₁ args) W →
      assign.wpIn (Fence.wide.inRound l) (n - 1) P (Exit.then K (fun _ _ _ => False)) { tmps := (ps.zip args).foldl (fun t (p, v) => t.setIfInBounds p v) a.tmps, defers := [] } W)
    (hbody : ∀ (l k : Nat) (W : World) (args : Array Value), k < N → I k W → Ok k W args → body.wpIn (Fence.wide.inRound l) (n - 1) P (bdPost t I Ip k W) (a₁ args) W)
    (hdone : ∀ (D : Nat) (W : World), I N W → W.heap[D]? = some (.deferred (some [])) → w.heap.size ≤ D → Q .normal { a with defers := { target := .collected D, args := #[] } :: a.defers } W)
    (hpanic : ∀ (D : Nat) (c : List PanicEntry) (W : World), Ip c W → W.heap[D]? = some (.deferred (some [])) → w.heap.size ≤ D → Q (.panic c) { a with defers := { target := .collected D, args := #[] } :: a.defers } W) :
    wpB P f (Code.rangeFunc g ps assign body) Q a w := by
  intro b k cs hro hb
  have hF : Fence.wide.fn b.fn := trivial
  obtain ⟨rec, hrec⟩ : ∃ rec : LoopState → Option Code → Loop, rec = fun st pe => { state := st, pending := pe, fn := f, tmps := a.tmps, params := ps, assign, body, defers := w.heap.size } := ⟨_, rfl⟩
  obtain ⟨W1, hW1⟩ : ∃ W1, (w.alloc (.deferred (some []))).alloc (.loop (rec .ready none)) = W1 := ⟨_, rfl⟩
  have hL1 : W1.heap[w.heap.size + 1]? = some (.loop (rec .ready none)) := by
    rw [← hW1]; have := World.alloc_heap_new (w.alloc (.deferred (some []))) (.loop (rec .ready none)); rwa [World.size_alloc] at this
  have hK1 : W1.heap[w.heap.size]? = some (.deferred (some [])) := by
    rw [← hW1]; exact (Below.heap_alloc _ _ _ (by simp)).trans (World.alloc_heap_new w _)
  have hb1 : Below w.heap.size w W1 := by rw [← hW1]; exact ((Below.refl _ w).alloc (Nat.le_refl _) _).alloc (by simp) _
  have hI1 : I 0 W1 := hI 0 w W1 h0 (Kp.of_below hb1)
  have he : (Instr.enterLoop b.fn a.tmps ps assign body none).run P w = .ok (w.heap.size + 1, [{ target := .collected w.heap.size, args := #[] }]) W1 := by
    rw [← hW1, hrec, hb]; exact run_enterLoop_outer _ _ _ _ _
  have hres : (resolve a.eval (rangeCall g (w.heap.size + 1)) 0).run P W1 = .ok { target := .fn (.func gf) lb, args := #[.func (.yield (w.heap.size + 1)) #[] #[]] } W1 := by
    simp only [resolve, hg]
    simp [go_sem]
  have hinv : (invoke (.fn (.func gf) lb) #[.func (.yield (w.heap.size + 1)) #[] #[]]).run P W1 = .ok (.enter gf (#[.func (.yield (w.heap.size + 1)) #[] #[]] ++ lb)) W1 := by
    simp [invoke, go_sem, eg]
  have hcall : CallsIn Fence.wide n P gf (#[.func (.yield (w.heap.size + 1)) #[] #[]] ++ lb) W1 fun e W' =>
      ((∃ v, e = .returned v) ∧ I N W' ∧ W'.heap[w.heap.size + 1]? = some (.loop (rec .ready none)) ∧ W'.heap[w.heap.size]? = some (.deferred (some []))) ∨ ∃ c, e = .panicked c ∧ Ip c W' ∧ W'.heap[w.heap.size]? = some (.deferred (some [])) := by
    refine hseq (w.heap.size + 1) (fun k W => I k W ∧ W.heap[w.heap.size + 1]? = some (.loop (rec .ready none)) ∧ W.heap[w.heap.size]? = some (.deferred (some [])))
      (fun c W => Ip c W ∧ W.heap[w.heap.size]? = some (.deferred (some []))) W1 hb1 ?_ ?_ ⟨hI1, hL1, hK1⟩
    · rintro k A B ⟨hi, hl, hk⟩ hAB
      exact ⟨hI k A B hi (Kp.of_below hAB), (hAB.block _ (Array.getElem?_eq_some_iff.1 hl).1).trans hl, (hAB.block _ (Array.getElem?_eq_some_iff.1 hk).1).trans hk⟩
    · rintro k W args hkN ⟨hi, hl, hk⟩ hok
      have hlt : w.heap.size + 1 < W.heap.size := (Array.getElem?_eq_some_iff.1 hl).1
      have hy := run_yield (P := P) (args := args) hl (by rw [hrec]; exact hsz k W args hok)
      rw [hrec] at hy
      have hnl : ∀ (q : Loop) (W : World), W.heap[w.heap.size + 1]? = some (.loop q) → ∀ (n : Nat) x, n ≤ w.heap.size → W.heap[w.heap.size + 1]? = some x → ¬ cellsOr n (w.heap.size + 1) x := fun q W hq n x hn hx => by
        rw [hq] at hx; cases hx; show ¬ (w.heap.size + 1 < n); omega
      have hput : ∀ (q q' : Loop) (W : World), W.heap[w.heap.size + 1]? = some (.loop q) → ∀ n, n ≤ w.heap.size → Kp (cellsOr n) W (W.putObj (w.heap.size + 1) (.loop q')) := fun q q' W hq n hn => Kp.putObj _ _ _ fun x hx => hnl q W hq n x hn hx
      have hputT : ∀ (q q' : Loop) (W : World), W.heap[w.heap.size + 1]? = some (.loop q) → Kp (ofT t) W (W.putObj (w.heap.size + 1) (.loop q')) := fun q q' W hq => Kp.putObj _ _ _ fun x hx => by rw [hq] at hx; cases hx; exact fun h => h
      refine ⟨f, _, assign, body, hy, round_panics hf (hassign _ args W _ (hsz k W args hok) ⟨_, run_beginRound hl (by rw [hrec]), ?_⟩)⟩
      have hl2 : (W.putObj (w.heap.size + 1) (.loop { rec .ready none with state := .busy })).heap[w.heap.size + 1]? = some (.loop { rec .ready none with state := .busy }) := World.putObj_heap_same hlt
      have hk2 : (W.putObj (w.heap.size + 1) (.loop { rec .ready none with state := .busy })).heap[w.heap.size]? = some (.deferred (some [])) := (World.putObj_heap_other (by omega)).trans hk
      refine wpIn_mono (hbody _ k _ args hkN (hI k _ _ hi (hput _ _ _ hl _ (Nat.le_refl _))) (hOk k _ _ args hok (hput _ _ _ hl 0 (Nat.zero_le _)))) ?_
      rintro e a3 W3 hp
      cases e with
      | normal =>
        obtain ⟨hk3, hi3⟩ := hp
        have hl3 := hk3.same _ _ hl2 trivial
        have hr := run_endRound (P := P) none hl3
        rw [hrec] at hr hl3
        have hfin : (W3.putObj (w.heap.size + 1) (.loop (rec .ready none))).heap[w.heap.size + 1]? = some (.loop (rec .ready none)) := World.putObj_heap_same (Array.getElem?_eq_some_iff.1 hl3).1
        rw [hrec] at hfin
        refine ⟨_, _, hr, .inl ⟨rfl, ⟨hI _ _ _ hi3 (hput _ _ _ hl3 _ (Nat.le_refl _)), ?_, (World.putObj_heap_other (by omega)).trans (hk3.same _ _ hk2 trivial)⟩, ((hputT _ _ _ hl).trans (hk3.sub noneOr_ofT)).trans (hputT _ _ _ hl3)⟩⟩
        rw [hrec]; exact hfin
      | panic c =>
        obtain ⟨hd, hk3, hi3⟩ := hp
        exact ⟨hd, .inr ⟨c, rfl, hi3, hk3.same _ _ hk2 trivial⟩⟩
      | ret => exact hp.elim
      | exit id => exact hp.elim
      | goto t => exact hp.elim
      | outgrown => exact hp.elim
  have hr : Fence.wide.room (cs.length + 1 + (n + 1)) := room_wide _
  have h0' : (lone (b.atR a (.code (.rangeFunc g ps assign body) :: k)) cs w).fenced P Fence.wide := fenced_wide _ _
  have henter := stepR_rangeFunc (P := P) (b := b) (a := a) (k := k) (cs := cs) (w := w) (by rw [hro]; exact he) hres hinv
  obtain ⟨e, w₃, fr, hR, hsteps, hfn, hleave⟩ := hcall.2 (b.atR { a with defers := [{ target := .collected w.heap.size, args := #[] }] ++ a.defers } (.inRangeFunc (w.heap.size + 1) :: k) :: cs) (room_wide _)
  cases e with
  | outgrown => rcases hR with ⟨⟨v, h⟩, -⟩ | ⟨c, h, -⟩ <;> cases h
  | returned v =>
    rcases hR with ⟨-, hiN, hl, hk⟩ | ⟨c, h, -⟩
    · have hend := run_endLoop (P := P) hl (by rw [hrec]; simp)
      rw [hrec] at hend
      refine ⟨.normal, { a with defers := { target := .collected w.heap.size, args := #[] } :: a.defers }, _, hdone w.heap.size (w₃.putObj (w.heap.size + 1) (.loop { rec .ready none with state := .exhausted })) (hI _ _ _ hiN (Kp.putObj _ _ _ fun x hx => by rw [hl] at hx; cases hx; show ¬ (w.heap.size + 1 < w.heap.size); omega))
        ((World.putObj_heap_other (by omega)).trans hk) (Nat.le_refl _), ?_⟩
      rw [hrec]
      refine .head h0' henter (StepsIn.trans hsteps (.head (fenced_wide _ _) ?_ (.one (fenced_wide _ _) (stepR_endRangeFunc hend))))
      rw [← finish_atR_inRangeFunc (w.heap.size + 1) v]; exact step_leave_returned hleave
    · cases h
  | panicked chain =>
    rcases hR with ⟨⟨v, h⟩, -⟩ | ⟨c, h, hi, hk⟩
    · cases h
    · cases h
      refine ⟨.panic chain, { a with defers := { target := .collected w.heap.size, args := #[] } :: a.defers }, w₃, hpanic w.heap.size chain w₃ hi hk (Nat.le_refl _), .inRangeFunc (w.heap.size + 1) :: k, .head h0' henter (StepsIn.trans hsteps (.one (fenced_wide _ _) ?_))⟩
      rw [← Frame.raise_atR]; exact step_leave_panicked hleave
end
end Go.Proofs.YtgfbmidpiamkhaaDoor
