/- What is printed is parsed as the same: the lines of a text with notes and blanks between its numbers. Plain. -/
import Derived.Test.YtgfbmidpiamkhaaDoorQBkD1
namespace Go.Proofs.YtgfbmidpiamkhaaDoor
namespace D28

def flatL (L : List Ln) : List Bs := L.flatMap Prod.snd
/-- between two bytes of clauses: the words that are whole, the one that is read; the line is no note -/
structure AtW (s : LS) (P : List Bs) (cur : Bs) : Prop where
  pre : flatL s.out ++ s.ws.1 = P
  cur : s.ws.2 = cur
  good : ∀ r V, wfin s.ws ≠ (99 :: r) :: V
def addW (P : List Bs) (cur : Bs) : List Bs := if cur = [] then P else P ++ [cur]
theorem counts_of {W : List Bs} (h : ∀ r V, W ≠ (99 :: r) :: V) (hn : W ≠ []) : countsB W = true := by
  unfold countsB
  split
  · exact absurd rfl (h _ _)
  · exact absurd rfl hn
  · rfl
theorem emit_flat {n : Nat} {W : List Bs} (h : ∀ r V, W ≠ (99 :: r) :: V) : flatL (emitL n W) = W := by
  unfold emitL
  by_cases hn : W = []
  · subst hn; rfl
  · rw [if_pos (counts_of h hn)]; simp [flatL]
theorem AtW.fin {s : LS} {P : List Bs} {cur : Bs} (h : AtW s P cur) : flatL s.out ++ wfin s.ws = addW P cur := by
  unfold wfin addW
  rw [h.cur]
  split
  · exact h.pre
  · rw [← List.append_assoc, h.pre]
theorem AtW.blank {s : LS} {P : List Bs} {cur : Bs} (h : AtW s P cur) {c : UInt8} (hc : blankU c = true) : AtW (lstep s c) (addW P cur) [] := by
  by_cases h10 : c = 10
  · subst h10
    refine ⟨?_, rfl, fun r V e => by cases e⟩
    show flatL (s.out ++ emitL s.at_ (wfin s.ws)) ++ [] = _
    rw [List.append_nil, flatL, List.flatMap_append]
    show flatL s.out ++ flatL _ = _
    rw [emit_flat h.good, h.fin]
  · have e : lstep s c = ⟨s.out, s.at_, (wfin s.ws, [])⟩ := by unfold lstep; rw [if_neg h10, wfin_words hc]
    rw [e]
    exact ⟨h.fin, rfl, fun r V e => h.good r V e⟩
theorem AtW.byte {s : LS} {P : List Bs} {cur : Bs} (h : AtW s P cur) {c : UInt8} (hc : blankU c = false) (h99 : c ≠ 99) : AtW (lstep s c) P (cur ++ [c]) := by
  have h10 : c ≠ 10 := by rintro rfl; simp [blankU] at hc
  have e : lstep s c = ⟨s.out, s.at_, (s.ws.1, s.ws.2 ++ [c])⟩ := by unfold lstep wstep; rw [if_neg h10, if_neg (by simp [hc])]
  rw [e]
  refine ⟨h.pre, by rw [h.cur], fun r V e => ?_⟩
  have hg := h.good
  have e2 : s.ws.1 ++ [s.ws.2 ++ [c]] = (99 :: r) :: V := by simpa [wfin] using e
  cases h1 : s.ws.1 with
  | nil =>
    rw [h1] at e2
    simp only [List.nil_append, List.cons.injEq] at e2
    cases h2 : s.ws.2 with
    | nil => rw [h2] at e2; simp only [List.nil_append, List.cons.injEq] at e2; exact h99 e2.1.1
    | cons x q =>
      rw [h2] at e2
      simp only [List.cons_append, List.cons.injEq] at e2
      exact hg q [] (by unfold wfin; rw [h1, h2, if_neg (by simp), e2.1.1]; rfl)
  | cons y q =>
    rw [h1] at e2
    simp only [List.cons_append, List.cons.injEq] at e2
    have h3 := hg r (if s.ws.2 = [] then q else q ++ [s.ws.2])
    apply h3
    unfold wfin
    rw [h1, e2.1]
    split <;> rfl
theorem AtW.token {P : List Bs} (w : Bs) (hw : ∀ c ∈ w, blankU c = false ∧ c ≠ 99) : ∀ {s : LS} {cur : Bs}, AtW s P cur → AtW (w.foldl lstep s) P (cur ++ w) := by
  induction w with
  | nil => intro s cur h; simpa using h
  | cons c w ih =>
    intro s cur h
    have h1 := h.byte (hw c (by simp)).1 (hw c (by simp)).2
    have h2 := ih (fun x hx => hw x (by simp [hx])) h1
    simpa using h2
/-- a note under way -/
def Cm (s : WS) : Prop := ∃ r V, wfin s = (99 :: r) :: V
theorem Cm.step {s : WS} (h : Cm s) (c : UInt8) : Cm (wstep s c) := by
  obtain ⟨r, V, e⟩ := h
  by_cases hc : blankU c = true
  · rw [wfin_words hc]; exact ⟨r, V, by simpa [wfin] using e⟩
  · have e1 : wstep s c = (s.1, s.2 ++ [c]) := by unfold wstep; rw [if_neg hc]
    rw [e1]
    have e2 : wfin (s.1, s.2 ++ [c]) = s.1 ++ [s.2 ++ [c]] := by simp [wfin]
    unfold Cm
    rw [e2]
    unfold wfin at e
    split at e
    · rw [e]; exact ⟨r, _, rfl⟩
    · cases h1 : s.1 with
      | nil =>
        rw [h1] at e
        simp only [List.nil_append, List.cons.injEq] at e
        rw [e.1]; exact ⟨_, _, rfl⟩
      | cons y q =>
        rw [h1] at e
        simp only [List.cons_append, List.cons.injEq] at e
        rw [e.1]; exact ⟨_, _, rfl⟩
theorem fold_noLF (a : Bs) (h : (10 : UInt8) ∉ a) : ∀ s : LS, a.foldl lstep s = ⟨s.out, s.at_, a.foldl wstep s.ws⟩ := by
  induction a with
  | nil => intro s; rfl
  | cons c a ih =>
    intro s
    have hc : c ≠ 10 := fun e => h (by simp [e])
    rw [List.foldl_cons, ih (fun hm => h (by simp [hm]))]
    unfold lstep
    rw [if_neg hc]; rfl
theorem fold_Cm (a : Bs) : ∀ s : WS, Cm s → Cm (a.foldl wstep s) := by
  induction a with
  | nil => intro s h; exact h
  | cons c a ih => intro s h; exact ih _ (h.step c)
theorem fold_note {o : List Ln} {k : Nat} (note : Bs) (h : (10 : UInt8) ∉ note) : ((99 :: note) ++ [10]).foldl lstep ⟨o, k, ([], [])⟩ = ⟨o, k + 1, ([], [])⟩ := by
  have h1 : (10 : UInt8) ∉ (99 :: note : Bs) := by
    intro hm
    rcases List.mem_cons.1 hm with e | e
    · exact absurd e (by decide)
    · exact h e
  rw [List.foldl_append, fold_noLF _ h1]
  obtain ⟨r, V, e⟩ := fold_Cm note ([], [99]) ⟨[], [], rfl⟩
  have e' : wfin ((99 :: note).foldl wstep ([], [])) = (99 :: r) :: V := e
  show (⟨o ++ emitL k (wfin ((99 :: note).foldl wstep ([], []))), k + 1, ([], [])⟩ : LS) = _
  rw [e']
  simp [emitL, countsB]

/-! ### What DimacsBeside makes of a text -/
def sepB (note : Bs) (how n : Nat) : Bs := match how / 2 ^ (n % 16) % 4 with
  | 1 => [32, 9, 32]
  | 2 => [10]
  | 3 => [32, 10, 99, 32] ++ note ++ [10, 9]
  | _ => [32]
def transL (note : Bs) (how : Nat) : Nat → Bs → Bs
  | _, [] => []
  | n, b :: r => if b = 32 then sepB note how (n + 1) ++ transL note how (n + 1) r else b :: transL note how n r
theorem transL_zero (note : Bs) : ∀ (a : Bs) (n : Nat), transL note 0 n a = a
  | [], _ => rfl
  | b :: r, n => by
    rw [transL]
    split
    · rename_i h
      have e : sepB note 0 (n + 1) = [32] := by unfold sepB; rw [Nat.zero_div]; rfl
      rw [e, transL_zero note r, h]; rfl
    · rw [transL_zero note r]
theorem transL_tok {note : Bs} {how : Nat} (w : Bs) (hw : (32 : UInt8) ∉ w) (r : Bs) (n : Nat) : transL note how n (w ++ r) = w ++ transL note how n r := by
  induction w with
  | nil => rfl
  | cons c w ih =>
    rw [List.cons_append, transL, if_neg (fun e => hw (by simp [e])), ih (fun hm => hw (by simp [hm]))]; rfl
theorem AtW.sep {note : Bs} (hn : (10 : UInt8) ∉ note) (how n : Nat) {s : LS} {P : List Bs} {cur : Bs} (h : AtW s P cur) : AtW ((sepB note how n).foldl lstep s) (addW P cur) [] := by
  unfold sepB
  split
  · have h1 := h.blank (c := 32) rfl
    have h2 := h1.blank (c := 9) rfl
    exact h2.blank (c := 32) rfl
  · exact h.blank (c := 10) rfl
  · have h1 := h.blank (c := 32) rfl
    have h2 := h1.blank (c := 10) rfl
    have h3 : AtW (([99, 32] ++ note ++ [10]).foldl lstep (lstep (lstep s 32) 10)) (addW P cur) [] := by
      have e := fold_note (o := (lstep (lstep s 32) 10).out) (k := (lstep (lstep s 32) 10).at_) (32 :: note) (by
        intro hm
        rcases List.mem_cons.1 hm with e | e
        · exact absurd e (by decide)
        · exact hn e)
      have e2 : (⟨(lstep (lstep s 32) 10).out, (lstep (lstep s 32) 10).at_, ([], [])⟩ : LS) = lstep (lstep s 32) 10 := rfl
      rw [e2] at e
      show AtW (((99 :: 32 :: note) ++ [10]).foldl lstep (lstep (lstep s 32) 10)) _ _
      rw [e]
      exact ⟨h2.pre, rfl, fun r V e => by cases e⟩
    have h4 := h3.blank (c := 9) rfl
    have e : ([32, 10, 99, 32] ++ note ++ [10, 9] : Bs) = [32, 10] ++ (([99, 32] ++ note ++ [10]) ++ [9]) := by simp
    rw [e, List.foldl_append, List.foldl_append]
    exact h4
  · exact h.blank (c := 32) rfl
theorem addW_ne {P : List Bs} {cur : Bs} (h : cur ≠ []) : addW P cur = P ++ [cur] := by unfold addW; rw [if_neg h]
theorem AtW.lits {note : Bs} (hn : (10 : UInt8) ∉ note) (how : Nat) (c : List Int) : ∀ (n : Nat) {s : LS} {P : List Bs} (rest : Bs), AtW s P [] → ∃ n' s', (transL note how n (c.flatMap litT ++ rest)).foldl lstep s = (transL note how n' rest).foldl lstep s' ∧ AtW s' (P ++ c.map numL) [] := by
  induction c with
  | nil => intro n s P rest h; exact ⟨n, s, rfl, by simpa using h⟩
  | cons x c ih =>
    intro n s P rest h
    have h1 := h.token (numL x) fun b hb => ⟨(numL_mem hb).1, (numL_mem hb).2.1⟩
    rw [List.nil_append] at h1
    have h2 := h1.sep hn how (n + 1)
    rw [addW_ne (numL_ne x)] at h2
    obtain ⟨n', s', e, h3⟩ := ih (n + 1) rest h2
    refine ⟨n', s', ?_, by simpa using h3⟩
    have e1 : (x :: c).flatMap litT ++ rest = numL x ++ (32 :: (c.flatMap litT ++ rest)) := by simp [litT]
    rw [e1, transL_tok _ (fun hm => (numL_mem hm).2.2.2 rfl), transL, if_pos rfl, List.foldl_append, List.foldl_append, e]
theorem AtW.clauses {note : Bs} (hn : (10 : UInt8) ∉ note) (how : Nat) (l : List (List Int)) : ∀ (n : Nat) {s : LS} {P : List Bs}, AtW s P [] → AtW ((transL note how n (printL l)).foldl lstep s) (P ++ toks l) [] := by
  induction l with
  | nil => intro n s P h; simpa [toks, printL, transL] using h
  | cons c l ih =>
    intro n s P h
    have e1 : printL (c :: l) = c.flatMap litT ++ (48 :: 10 :: printL l) := by simp [printL, lineL]
    obtain ⟨n', s', e, h1⟩ := h.lits hn how c n (48 :: 10 :: printL l)
    rw [e1, e]
    have e2 : transL note how n' (48 :: 10 :: printL l) = 48 :: 10 :: transL note how n' (printL l) := by
      rw [transL, if_neg (by decide), transL, if_neg (by decide)]
    rw [e2]
    have h2 := (h1.byte (c := 48) rfl (by decide)).blank (c := 10) rfl
    rw [List.nil_append, addW_ne (by simp)] at h2
    have h3 := ih n' h2
    have e3 : P ++ toks (c :: l) = P ++ c.map numL ++ [[48]] ++ toks l := by simp [toks]
    rw [e3]
    exact h3
theorem linesFrom_out (o : List Ln) (k : Nat) (ws : WS) (a : Bs) : linesFrom ⟨o, k, ws⟩ a = o ++ linesFrom ⟨[], k, ws⟩ a := by
  obtain ⟨p, ps, hp⟩ : ∃ p ps, cut10 a = p :: ps := by
    cases h : cut10 a with
    | nil => exact absurd h (cut10_ne a)
    | cons p ps => exact ⟨p, ps, rfl⟩
  rw [lines_from a _ p ps hp, lines_from a _ p ps hp]
  simp
/-- the lines of printed clauses, with notes and blanks, tell their words -/
theorem clauses_flat {note : Bs} (hn : (10 : UInt8) ∉ note) (how n k : Nat) (l : List (List Int)) : flatL (linesFrom ⟨[], k, ([], [])⟩ (transL note how n (printL l))) = toks l := by
  have h0 : AtW ⟨[], k, ([], [])⟩ [] [] := ⟨rfl, rfl, fun r V e => by cases e⟩
  have h := h0.clauses hn how l n
  unfold linesFrom lfin
  have e : flatL ((transL note how n (printL l)).foldl lstep ⟨[], k, ([], [])⟩).out ++ wfin ((transL note how n (printL l)).foldl lstep ⟨[], k, ([], [])⟩).ws = [] ++ toks l := by
    have := h.fin; simpa [addW] using this
  rw [flatL, List.flatMap_append]
  show flatL _ ++ flatL _ = _
  rw [emit_flat h.good, e]; rfl

/-! ### The first line -/
def headQ (vars : Int) (n : Nat) : Bs := pcnf ++ numL vars ++ [32] ++ numL n ++ [10]
theorem fold_tok (w : Bs) (hw : ∀ c ∈ w, blankU c = false) : ∀ (o : List Ln) (k : Nat) (W : List Bs) (cur : Bs), w.foldl lstep ⟨o, k, (W, cur)⟩ = ⟨o, k, (W, cur ++ w)⟩ := by
  induction w with
  | nil => intro o k W cur; simp
  | cons c w ih =>
    intro o k W cur
    have hc := hw c (by simp)
    have h10 : c ≠ 10 := by rintro rfl; simp [blankU] at hc
    have e : lstep ⟨o, k, (W, cur)⟩ c = ⟨o, k, (W, cur ++ [c])⟩ := by unfold lstep wstep; rw [if_neg h10, if_neg (by simp [hc])]
    rw [List.foldl_cons, e, ih (fun x hx => hw x (by simp [hx]))]; simp
theorem fold_head (o : List Ln) (k : Nat) (vars : Int) (n : Nat) : (headQ vars n).foldl lstep ⟨o, k, ([], [])⟩ = ⟨o ++ [(k, [[112], [99, 110, 102], numL vars, numL n])], k + 1, ([], [])⟩ := by
  unfold headQ
  rw [List.foldl_append, List.foldl_append, List.foldl_append, List.foldl_append]
  have e1 : pcnf.foldl lstep ⟨o, k, ([], [])⟩ = ⟨o, k, ([[112], [99, 110, 102]], [])⟩ := rfl
  rw [e1]
  have e2 : ∀ W (w : Bs), w ≠ [] → [32].foldl lstep (⟨o, k, (W, [] ++ w)⟩ : LS) = ⟨o, k, (W ++ [w], [])⟩ := by
    intro W w hw
    show lstep _ 32 = _
    unfold lstep wstep
    rw [if_neg (by decide), if_pos (show blankU 32 = true from rfl), List.nil_append, if_neg hw]
  have e4 : (numL vars).foldl lstep (⟨o, k, ([[112], [99, 110, 102]], [])⟩ : LS) = ⟨o, k, ([[112], [99, 110, 102]], [] ++ numL vars)⟩ := fold_tok _ (fun c hc => (numL_mem hc).1) _ _ _ _
  have e5 : (numL (n : Int)).foldl lstep (⟨o, k, ([[112], [99, 110, 102]] ++ [numL vars], [])⟩ : LS) = ⟨o, k, ([[112], [99, 110, 102]] ++ [numL vars], [] ++ numL n)⟩ := fold_tok _ (fun c hc => (numL_mem hc).1) _ _ _ _
  rw [e4, e2 _ _ (numL_ne vars), e5, List.nil_append]
  show lstep _ 10 = _
  unfold lstep
  rw [if_pos rfl]
  have e3 : wfin ([[112], [99, 110, 102]] ++ [numL vars], numL n) = [[112], [99, 110, 102], numL vars, numL n] := by
    unfold wfin; rw [if_neg (numL_ne _)]; rfl
  dsimp only
  rw [e3]; rfl
theorem lines_head (o : List Ln) (k : Nat) (vars : Int) (n : Nat) (a : Bs) : linesFrom ⟨o, k, ([], [])⟩ (headQ vars n ++ a) = o ++ (k, [[112], [99, 110, 102], numL vars, numL n]) :: linesFrom ⟨[], k + 1, ([], [])⟩ a := by
  have e : linesFrom ⟨o, k, ([], [])⟩ (headQ vars n ++ a) = linesFrom ((headQ vars n).foldl lstep ⟨o, k, ([], [])⟩) a := by unfold linesFrom; rw [List.foldl_append]
  rw [e, fold_head, linesFrom_out]; simp
theorem printQ_head (vars : Int) (l : List (List Int)) : printQ vars l = headQ vars l.length ++ printL l := by
  unfold printQ headQ; simp only [List.append_assoc]

theorem may_lits {vars : Int} {l : List (List Int)} (h : satMayN vars l = 0) : 0 ≤ vars ∧ vars ≤ 1024 ∧ ∀ c ∈ l, ∀ n ∈ c, n ≠ 0 ∧ n ≤ vars ∧ -n ≤ vars := by
  unfold satMayN at h
  split at h
  · cases h
  · split at h
    · cases h
    · split at h
      · cases h
      · split at h
        · cases h
        · rename_i h1 _ h3 h4
          refine ⟨by omega, by omega, fun c hc n hn => ?_⟩
          have h5 : (l.any fun c => c.any (badLit vars)) = false := by simpa using h4
          have h6 := List.any_eq_false.1 h5 c hc
          have h7 : (c.any (badLit vars)) = false := by simpa using h6
          have h8 := List.any_eq_false.1 h7 n hn
          simp [badLit] at h8
          omega
/-- a question that is printed, with notes and blanks beside its numbers, tells itself -/
theorem parse_back {vars : Int} {l : List (List Int)} (hl : LightL l) (hm : satMayN vars l = 0) {note : Bs} (hn : (10 : UInt8) ∉ note) (how n : Nat) (a : Bs) (k : Nat) (ha : a.foldl lstep .start = ⟨[], k, ([], [])⟩) :
    POk (a ++ headQ vars l.length ++ transL note how n (printL l)) vars l.length (linesFrom ⟨[], k + 1, ([], [])⟩ (transL note how n (printL l))) l := by
  obtain ⟨h0, h1, h2⟩ := may_lits hm
  have hl60 := hl.1
  refine ⟨⟨k, numL vars, numL l.length, ?_, parse_num ⟨by omega, by omega⟩, parse_num ⟨by omega, by omega⟩⟩, h0, by omega, ?_, Int.le_refl _⟩
  · have e : linesOf (a ++ headQ vars l.length ++ transL note how n (printL l)) = linesFrom (a.foldl lstep .start) (headQ vars l.length ++ transL note how n (printL l)) := by
      unfold linesOf linesFrom; rw [List.append_assoc, List.foldl_append]
    rw [e, ha, lines_head]; rfl
  · refine linesG_flat _ _ _ ?_
    show wordsG _ _ _ (flatL _) = _
    rw [clauses_flat hn]
    have := wordsG_toks (most := (l.length : Int)) (vars := vars) l (fun c hc n hn => ⟨((hl.2 c hc).2 n hn).2, ((hl.2 c hc).2 n hn).1, fun _ => (h2 c hc n hn).2⟩) [] (by simp)
    simpa using this
theorem proof_back {l : List (List Int)} (hl : LightL l) : linesG 16384 (-1) ([], false) (linesOf (printL l)) = ((l, false), 0, 0) := by
  refine linesG_flat _ _ _ ?_
  have h1 := clauses_flat (note := []) (by simp) 0 0 1 l
  rw [transL_zero] at h1
  show wordsG _ _ _ (flatL (linesFrom .start (printL l))) = _
  rw [show LS.start = ⟨[], 1, ([], [])⟩ from rfl, h1]
  have hl60 := hl.1
  have := wordsG_toks (most := 16384) (vars := -1) l (fun c hc n hn => ⟨((hl.2 c hc).2 n hn).2, ((hl.2 c hc).2 n hn).1, fun h => absurd h (by decide)⟩) [] (by simp; omega)
  simpa using this
end D28
end Go.Proofs.YtgfbmidpiamkhaaDoor
