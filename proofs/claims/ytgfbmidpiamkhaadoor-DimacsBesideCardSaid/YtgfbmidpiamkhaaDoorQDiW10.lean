/- dimacs.Parse's closure, where the text is right. -/
import Derived.Test.YtgfbmidpiamkhaaDoorQDiW8
import Derived.Test.YtgfbmidpiamkhaaDoorQDiW9
import Derived.Test.YtgfbmidpiamkhaaDoorQFnSatMay
namespace Go.Proofs.YtgfbmidpiamkhaaDoor
open Go.RowKit
open C01 D28

/-- a text that tells a question -/
structure POk (a : Bs) (vars count : Int) (rest : List Ln) (out : List (List Int)) : Prop where
  lines : ∃ n0 w2 w3, linesOf a = (n0, [[112], [99, 110, 102], w2, w3]) :: rest ∧ parseL w2 = some vars ∧ parseL w3 = some count
  vars0 : 0 ≤ vars
  count0 : 0 ≤ count
  cls : linesG count vars ([], false) rest = ((out, false), 0, 0)
  all : count ≤ out.length
theorem linesG_pre {most vars : Int} {L : List Ln} {g : GS} {r : GS × Nat} (h : linesG most vars g L = (r.1, 0, r.2)) (k : Nat) : ∃ g', linesG most vars g (L.take k) = (g', 0, 0) := by
  rcases hl : linesG most vars g (L.take k) with ⟨g', _ | c, n⟩
  · refine ⟨g', ?_⟩
    have key : ∀ (L : List Ln) (g g' : GS) (n : Nat), linesG most vars g L = (g', 0, n) → n = 0 := by
      intro L
      induction L with
      | nil => intro g g' n h; cases h; rfl
      | cons x L ih =>
        obtain ⟨m, ws⟩ := x
        intro g g' n h
        rw [linesG_cons] at h
        rcases hw : wordsG most vars g ws with ⟨g2, _ | k⟩ <;> rw [hw] at h
        · exact ih _ _ _ h
        · cases h
    rw [key _ _ _ _ hl]
  · have := linesG_bad hl
    rw [h] at this; cases this
theorem wordsG_pre {most vars : Int} {ws : List Bs} {g g' : GS} (h : wordsG most vars g ws = (g', 0)) (j : Nat) : ∃ g2, wordsG most vars g (ws.take j) = (g2, 0) := by
  rcases hl : wordsG most vars g (ws.take j) with ⟨g2, _ | c⟩
  · exact ⟨g2, rfl⟩
  · have := wordsG_bad hl
    rw [h] at this; cases this
def Q1Post (qb : Nat) (vars : Int) (out : List (List Int)) (w : World) (e : Ending) (w' : World) : Prop :=
  e = .returned (.tuple #[]) ∧ Kp (fun b _ => b < w.heap.size ∧ b ≠ qb) w w' ∧ ∃ v, w'.heap[qb]? = some (.cells #[.int .i64 vars, v] 24 (0, 0)) ∧ RIntss w' (fun b => w.heap.size ≤ b ∧ b < w'.heap.size) v out
/-- between two rounds -/
def QI (a : Bs) (vars count : Int) (rest : List Ln) (w0 : World) (k : Nat) (w : World) : Prop :=
  Below w0.heap.size w0 w ∧ match k with
  | 0 => w.heap[w0.heap.size]? = some (.cells #[.pointer none] 60 (0, 0))
  | k + 1 => ∃ G g, w0.heap.size ≤ G ∧ w.heap[w0.heap.size]? = some (.cells #[.pointer (some ⟨G, 0, none⟩)] 60 (0, 0)) ∧ linesG count vars ([], false) (rest.take k) = (g, 0, 0) ∧ GOk g (k * (a.length + 1)) ∧ GAt w w0.heap.size G g.1 g.2 count 1 vars
theorem QI.kp {a : Bs} {vars count : Int} {rest : List Ln} {w0 A A' : World} {k n : Nat} (h : QI a vars count rest w0 k A) (hk : Kp (cellsOr n) A A') (hn : w0.heap.size ≤ n) : QI a vars count rest w0 k A' := by
  obtain ⟨h1, h2⟩ := h
  refine ⟨h1.trans (hk.below h1.size fun b o hb _ => by cases o <;> first | trivial | exact Nat.lt_of_lt_of_le hb hn), ?_⟩
  cases k with
  | zero => exact hk.same _ _ h2 trivial
  | succ k =>
    obtain ⟨G, g, q1, q2, q3, q4, q5⟩ := h2
    exact ⟨G, g, q1, hk.same _ _ q2 trivial, q3, q4, q5.kp hk fun _ _ _ _ => trivial⟩
/-- within a round -/
def QW (B G : Nat) (count vars : Int) (w0 : World) (M : Nat) (g : GS) (ws : List Bs) (j : Nat) (w : World) : Prop :=
  Below B w0 w ∧ w.heap[B]? = some (.cells #[.pointer (some ⟨G, 0, none⟩)] 60 (0, 0)) ∧ ∃ g', wordsG count vars g (ws.take j) = (g', 0) ∧ GOk g' (M + j) ∧ GAt w B G g'.1 g'.2 count 1 vars
attribute [local go_sem] Oper.semAt_some
set_option maxRecDepth 100000 in
set_option maxHeartbeats 8000000 in
theorem Q1_any (a : Bs) (m vars count : Int) (rest : List Ln) (out : List (List Int)) (sb qb : Nat) (w : World) (hm : w.cell? ⟨0, 0, none⟩ = some (.int .i64 m)) (hs : w.cell? ⟨sb, 0, none⟩ = some (sv a))
    (hq : w.heap[qb]? = some (.cells #[.int .i64 0, .slice none 0 0] 24 (0, 0))) (ha : a.length ≤ 900000) (hP : POk a vars count rest out) (hmay : satMayN vars out = 0) :
    Calls Tryd.prog 26 #[.pointer (some ⟨sb, 0, none⟩), .pointer (some ⟨qb, 0, none⟩)] w (Q1Post qb vars out w) := by
  refine calls_of_wpB Tryd.func26 rfl ?_
  simp only [Tryd.ntmps26, List.size_toArray, List.length_cons, List.length_nil, Nat.reduceAdd, Nat.reduceSub, Array.replicate_succ, Array.replicate_zero, List.push_toArray, List.append_toArray, List.nil_append, List.cons_append]
  have HL := Lib.hid (fun w => lines_any a w)
  have hs' : (w.alloc (.cells #[.pointer none] 60)).cell? ⟨sb, 0, none⟩ = some (sv a) := (World.cell?_of_block (a := ⟨sb, 0, none⟩) (Below.heap_alloc w _ sb (World.block_lt_of_cell? w _ hs))).trans hs
  refine wpB_seq (wpB_of_wp ?_)
  go_wp2
  refine wpB_seq (wpB_seq (wpB_of_wp ?_))
  go_wp2_with (go_at_call 27; refine (HL.out _).mono ?_; rintro e w1 ⟨rfl, rfl⟩)
  obtain ⟨w1, hw1⟩ : ∃ w1, w1 = (w.alloc (.cells #[.pointer none] 60)).alloc (.cells #[sv a] 9) := ⟨_, rfl⟩
  have hb1 : Below w.heap.size w w1 := by rw [hw1]; exact (below_alloc w _).alloc (by simp) _
  have hz1 : w1.heap.size = w.heap.size + 2 := by rw [hw1]; simp
  have hcb : w1.cell? ⟨w.heap.size + 1, 0, none⟩ = some (sv a) := by rw [hw1]; exact box_b (Below.refl _ _) 0
  have hgb : w1.heap[w.heap.size]? = some (.cells #[.pointer none] 60 (0, 0)) := by rw [hw1]; exact heap_at_alloc (heap_alloc_new w _)
  have hm1 : w1.cell? ⟨0, 0, none⟩ = some (.int .i64 m) := (hb1.cell (p := ⟨_, _, _⟩) (World.block_lt_of_cell? w _ hm)).trans hm
  have hql := (Array.getElem?_eq_some_iff.1 hq).1
  rw [← hw1]
  clear hw1 hs'
  obtain ⟨⟨n0, x2, x3, hlines, hp2, hp3⟩, hv0, hc0, hcls, hall⟩ := hP
  have hNk : (linesOf a).length = rest.length + 1 := by rw [hlines]; rfl
  refine wpB_block (wpB_range (t := 9) (n := 9) Tryd.func26 rfl (enters_of Tryd.func46 (by kernel_rfl) rfl) (lines1_gives a m (w.heap.size + 1) w1 hm1 hcb (by omega)) (fun k W args h => OkL.size h) (fun k A A' args h hk => OkL.kp h hk)
    (QI a vars count rest w) (fun _ _ => False) (fun k A A' h hk => QI.kp h hk (by omega)) ?start (fun args => { tmps := #[.pointer (some ⟨sb, 0, none⟩), .pointer (some ⟨qb, 0, none⟩), .pointer (some ⟨w.heap.size, 0, none⟩), args.getD 0 undef, args.getD 1 undef, undef, undef, undef, undef, undef, sv a, .func (.func 46) #[] #[.pointer (some ⟨w.heap.size + 1, 0, none⟩)], args.getD 0 undef, args.getD 1 undef, undef, undef, undef, undef, undef, undef, undef, undef, undef, undef, undef, undef, undef, undef, undef, undef, undef, undef, undef, undef, undef, undef, undef, undef, undef, undef, undef, undef, undef, undef, undef, undef, undef, undef, undef, undef, undef, undef, undef, undef, undef, undef, undef, undef, undef, undef, undef, undef, undef, undef, undef, undef, undef, undef, undef, undef, undef, undef, undef, undef, undef, undef, undef], defers := [] }) ?assign ?body ?done ?panic)
  case start => exact ⟨hb1, hgb⟩
  case assign =>
    intro l args W K hsz hK
    obtain ⟨x, y, rfl⟩ := arr2 hsz
    gi_wp2
    exact hK
  case body =>
    rintro l k W args hk hQI ⟨hk', v, rfl, hv⟩
    obtain ⟨hbW, hQI⟩ := hQI
    cases k with
    | zero =>
      have h0 : (linesOf a)[0] = (n0, [[112], [99, 110, 102], x2, x3]) := by
        have : (linesOf a)[0]? = some (n0, [[112], [99, 110, 102], x2, x3]) := by rw [hlines]; rfl
        rw [List.getElem?_eq_getElem hk'] at this
        exact Option.some.inj this
      rw [h0] at hv ⊢
      have HF := Lib.hid (first_ok x2 x3 vars count n0 v W hv hp2 hp3 hv0 hc0)
      have HbW := Lib.hid hbW
      have HgW := Lib.hid (show W.heap[w.heap.size]? = some (.cells #[.pointer none] 60 (0, 0)) from hQI)
      have c0 := cell_of_row _ _ 0 _ _ _ HgW.out
      clear h0 hv hp2 hp3 hlines hcls hm hs hq hm1 hgb hcb hQI hbW hk hk'
      simp only [Array.getD_eq_getD_getElem?, List.getElem?_toArray, List.getElem?_cons_zero, List.getElem?_cons_succ, Option.getD_some]
      gi_wp2_with (refine ⟨trivial, ?_⟩; gi_at_call 28; refine (CallsIn.inRound l (callsIn_wide.2 HF.out)).mono ?_; rintro e w2 ⟨rfl, hb2⟩; have HB2 := Lib.hid hb2; have hg2 := (hb2.block _ (Array.getElem?_eq_some_iff.1 HgW.out).1).trans HgW.out; have hg3 := heap_at_alloc (o := (.cells #[.slice none 0 0, .bool false, .int .i64 count, .int .i64 1, .int .i64 vars] 68)) hg2; have d0 : (w2.alloc (.cells #[.slice none 0 0, .bool false, .int .i64 count, .int .i64 1, .int .i64 vars] 68)).cell? ⟨w.heap.size, 0, none⟩ = some (.pointer none) := cell_of_row _ _ 0 _ _ _ hg3; have f0 := frozen_of_row _ _ 0 _ _ hg3; have HG2 := Lib.hid hg2; clear hg2 hg3 c0 hb2)
      have hbw2 : Below W.heap.size W w2 := HB2.out
      have hsz2 := hbw2.size
      have hszW := HbW.out.size
      have hKq : Kp (noneOr 9) w2 (World.setCell (w2.alloc (.cells #[.slice none 0 0, .bool false, .int .i64 count, .int .i64 1, .int .i64 vars] 68)) ⟨w.heap.size, 0, none⟩ (.pointer (some ⟨w2.heap.size, 0, none⟩))) := (Kp.of_below (below_alloc _ _)).trans (Kp.setCell _ _ _ fun x hx h => by
        rw [heap_at_alloc HG2.out] at hx; cases hx; exact absurd (show 60 = 9 from h) (by decide))
      refine ⟨(Kp.of_below hbw2).trans hKq, (HbW.out.trans (hbw2.mono hszW)).trans (((below_alloc w2 _).mono (by omega)).trans ((Below.refl _ _).setCell (p := ⟨w.heap.size, 0, none⟩) (Nat.le_refl _) _)), w2.heap.size, ([], false), by omega, heap_setCell_same _ w.heap.size 0 _ _ _ (heap_at_alloc HG2.out), by simp [linesG], GOk.start.more (Nat.zero_le _), .slice none 0 0, [], ?_, RR.nil_ _ _⟩
      have hne : w2.heap.size ≠ w.heap.size := by
        have := (Array.getElem?_eq_some_iff.1 HG2.out).1
        omega
      exact (Below.heap_setCell _ ⟨w.heap.size, 0, none⟩ _ w2.heap.size hne).trans (heap_alloc_new _ _)
    | succ k =>
      obtain ⟨G, g, hG0, hgb', hgl, hgk, hga⟩ := hQI
      have hkr : k < rest.length := by rw [hNk] at hk; omega
      have hat : (linesOf a)[k + 1] = rest[k] := by
        have : (linesOf a)[k + 1]? = rest[k]? := by rw [hlines]; rfl
        rw [List.getElem?_eq_getElem hk', List.getElem?_eq_getElem hkr] at this
        exact Option.some.inj this
      have hmem := lines_words (List.getElem_mem hk')
      rw [hat] at hv hmem ⊢
      have hcls' : linesG count vars ([], false) rest = ((((out, false), (0 : Nat)) : GS × Nat).1, 0, (((out, false), (0 : Nat)) : GS × Nat).2) := hcls
      obtain ⟨gn, hgn⟩ := linesG_pre hcls' (k + 1)
      have hsucc := linesG_succ hkr hgl
      obtain ⟨gw, hgw⟩ : ∃ gw, wordsG count vars g rest[k].2 = (gw, 0) := by
        rcases h : wordsG count vars g rest[k].2 with ⟨g2, _ | c⟩
        · exact ⟨g2, rfl⟩
        · rw [h, hgn] at hsucc; cases hsucc
      rw [hgw] at hsucc
      have Hsucc := Lib.hid (show linesG count vars ([], false) (rest.take (k + 1)) = (gw, 0, 0) from hsucc)
      obtain ⟨n, hn⟩ : ∃ n, n = rest[k].1 := ⟨_, rfl⟩
      obtain ⟨ws, hws⟩ : ∃ ws, ws = rest[k].2 := ⟨_, rfl⟩
      rw [← hws] at hgw hmem hv
      rw [← hn]
      clear hws hn hk' hat hgn hcls' hsucc
      obtain ⟨gr, cap, cur, rfl, hgr, hcs⟩ := hv
      have Hcs := Lib.hid hcs
      have Hgr := Lib.hid hgr
      have hwl : ws.length ≤ 900001 := by omega
      have hkl : k ≤ 900000 := by have := lines_count a; omega
      have hmul : k * (a.length + 1) ≤ 900001 * 900001 - 900001 := by
        have h1 := Nat.mul_le_mul hkl (show a.length + 1 ≤ 900001 by omega)
        omega
      obtain ⟨M, hM⟩ : ∃ M, M = k * (a.length + 1) := ⟨_, rfl⟩
      have HMw := Lib.hid (show M + ws.length ≤ (k + 1) * (a.length + 1) by rw [hM, Nat.succ_mul]; omega)
      rw [← hM] at hgk hmul
      have Hgk := Lib.hid hgk
      have Hga := Lib.hid hga
      have Hgw := Lib.hid hgw
      have HbW := Lib.hid hbW
      have HgW := Lib.hid hgb'
      have c0 := cell_of_row _ _ 0 _ _ _ HgW.out
      have hmix : Tryd.prog.follows .mixedOrders = true := by kernel_rfl
      clear hcs hgr hgk hga hgl hM hm hs hq hm1 hgb hcb hgb' hbW hgw hp2 hp3 hlines hcls hk
      simp only [Array.getD_eq_getD_getElem?, List.getElem?_toArray, List.getElem?_cons_zero, List.getElem?_cons_succ, Option.getD_some]
      gi_wp2
      gi_loopw [28] (fun iv wr => ∃ j : Nat, j ≤ ws.length ∧ iv = .int .i64 j ∧ Hid (Kp (noneOr 9) W wr) ∧ Hid (QW w.heap.size G count vars w M g ws j wr)) (fun iv _ => ws.length - (intOf iv).toNat)
      case atStart => exact ⟨0, Nat.zero_le _, rfl, Lib.hid (Kp.refl _ _), Lib.hid ⟨HbW.out, HgW.out, g, rfl, Hgk.out, Hga.out⟩⟩
      case round =>
        obtain ⟨j, hj, rfl, HN, HI⟩ := hrel
        by_cases hlt : j < ws.length
        · have hc : wr.cell? ⟨gr, j, none⟩ = some (sv ws[j]) := by rw [cell_of_row _ _ j _ _ _ (HN.out.same _ _ Hgr.out rfl)]; exact Hcs.out j hlt
          obtain ⟨hbw, hgw, g1, hw1, hok, hga⟩ := HI.out
          have hd0 := cell_of_row _ _ 0 _ _ _ hgw
          obtain ⟨g2, hg2⟩ := wordsG_pre Hgw.out (j + 1)
          have hsc := wordsG_succ hlt hw1
          rw [hg2] at hsc
          obtain ⟨x, hp, htk⟩ : ∃ x, parseL ws[j] = some x ∧ takeG count vars g1 x = (g2, 0) := by
            cases hp : parseL ws[j] with
            | none => rw [hp] at hsc; cases hsc
            | some x => rw [hp] at hsc; exact ⟨x, rfl, hsc.symm⟩
          have hxr := parseL_range hp
          have HP := Lib.hid (fun w => (parse_any ws[j] n w).mono (R' := fun e w' => e = .returned (.int .i64 x) ∧ Below w.heap.size w w') (fun e w' h => by unfold ParsePost at h; rw [hp] at h; exact h))
          have hl1 : g1.1.length ≤ 900000000000 := by have := hok.len; omega
          have hr1 : ∀ c ∈ g1.1, c.length ≤ 900000000000 := fun c hc => by have := hok.row c hc; omega
          have HTc := Lib.hid (show ∀ w2, Below wr.heap.size wr w2 → Calls Tryd.prog 29 #[.pointer (some ⟨G, 0, none⟩), .int .i64 x, .int .i64 n] w2 fun e w3 => e = .returned (.tuple #[]) ∧ Kp (keepG G w.heap.size) w2 w3 ∧ GAt w3 w.heap.size G g2.1 g2.2 count 1 vars from fun w2 hb2 => (take_any w.heap.size G count 1 vars g1.1 g1.2 x n w2 (hga.up hb2) (Nat.le_trans hbw.size hb2.size) hxr hl1 hr1 hok.ne).mono fun e w3 h => by
            obtain ⟨h1, h2⟩ := h
            rw [show (g1.1, g1.2) = g1 from rfl, htk] at h2
            exact ⟨h2.1, h1, h2.2⟩)
          have HgW2 := Lib.hid (fun w2 (hb2 : Below wr.heap.size wr w2) => show w2.cell? ⟨w.heap.size, 0, none⟩ = some (.pointer (some ⟨G, 0, none⟩)) from (hb2.cell (p := ⟨w.heap.size, 0, none⟩) (Array.getElem?_eq_some_iff.1 hgw).1).trans hd0)
          have HNx := Lib.hid (show ∀ w2 w3, Below wr.heap.size wr w2 → Kp (keepG G w.heap.size) w2 w3 → GAt w3 w.heap.size G g2.1 g2.2 count 1 vars → w3.cell? ⟨w.heap.size, 0, none⟩ = some (.pointer (some ⟨G, 0, none⟩)) ∧ Hid (Kp (noneOr 9) W w3) ∧ Hid (QW w.heap.size G count vars w M g ws (j + 1) w3) from fun w2 w3 hb2 hk3 hg3 => by
            obtain ⟨v, vs, hGo, _⟩ := hga
            have hG2 := (hb2.block G (Array.getElem?_eq_some_iff.1 hGo).1).trans hGo
            have hgb2 := (hb2.block _ (Array.getElem?_eq_some_iff.1 hgw).1).trans hgw
            have hgb3 := hk3.same _ _ hgb2 ⟨fun e => by rw [e, hG2] at hgb2; exact absurd (Obj.cells.inj (Option.some.inj hgb2)).2.1 (by decide), .inl (by unfold rowT; decide)⟩
            have hw2 := hbw.size
            refine ⟨cell_of_row _ _ 0 _ _ _ hgb3, (HN.out.trans (Kp.of_below hb2)).trans (keepG_noneOr hG2 hk3), (hbw.trans (hb2.mono hw2)).trans (hk3.below (Nat.le_trans hw2 hb2.size) fun b o hb _ => ⟨by omega, by cases o <;> first | trivial | exact .inr hb⟩), hgb3, g2, hg2, ?_, hg3⟩
            have := hok.take (most := count) (vars := vars) x
            rw [htk] at this
            exact this)
          clear hp htk hsc hg2 hw1 hok hga hl1 hr1 hbw hgw
          gi_wp2
          refine wpIn_region_held (S := (fun w' => w'.cell? ⟨w.heap.size, 0, none⟩ = some (.pointer (some ⟨G, 0, none⟩)))) hmix (by kernel_rfl) (by rintro ⟨a, w, h⟩; exact h) hd0 (fun hHeld => ?_)
          refine wpAnyH_take (i := 0) (v := ?_) rfl (by kernel_rfl) (by kernel_rfl) (by kernel_rfl) (fun _ _ _ h => h) (Or.inl ⟨by rfl, ?_⟩) (by assumption) ?_
          rotate_left
          · intro w1 hSw
            (try dsimp only at hSw)
            go_simp
            (try with_reducible rfl)
          (try dsimp only [Act.put, List.setIfInBounds_toArray, List.set_cons_zero, List.set_cons_succ])
          refine wpAnyH_take (i := 1) (v := ?_) rfl (by kernel_rfl) (by kernel_rfl) (by kernel_rfl) (fun _ _ _ h => h) (Or.inl ⟨by rfl, ?_⟩) (by assumption) ?_
          rotate_left
          · intro w1 hSw
            (try dsimp only at hSw)
            go_simp
            (try with_reducible rfl)
          (try dsimp only [Act.put, List.setIfInBounds_toArray, List.set_cons_zero, List.set_cons_succ])
          refine wpAnyH_take (i := 2) (v := ?_) rfl (by kernel_rfl) (by kernel_rfl) (by kernel_rfl) (fun _ _ _ h => h) (Or.inl ⟨by rfl, ?_⟩) (by assumption) ?_
          rotate_left
          · intro w1 hSw
            (try dsimp only at hSw)
            go_simp
            (try with_reducible rfl)
          (try dsimp only [Act.put, List.setIfInBounds_toArray, List.set_cons_zero, List.set_cons_succ])
          refine wpAnyH_take (i := 4) (v := ?_) rfl (by kernel_rfl) (by kernel_rfl) (by kernel_rfl) (fun _ _ _ h => h) (Or.inl ⟨by rfl, ?_⟩) (by assumption) ?_
          rotate_left
          · intro w1 hSw
            (try dsimp only at hSw)
            go_simp
            (try with_reducible rfl)
          (try dsimp only [Act.put, List.setIfInBounds_toArray, List.set_cons_zero, List.set_cons_succ])
          refine wpAnyH_ready (rs := [3]) (by kernel_rfl) (by simp) ?_
          refine AllReadyH.cons rfl (fun K hK => ?_) AllReadyH.nil
          go_simp
          refine (HP.out _).mono ?_
          rintro e w2 ⟨rfl, hb2⟩
          have HB2 := Lib.hid (Below.trans (Below.drew (Below.refl _ _)) hb2)
          refine hK.out _ _ (HgW2.out _ HB2.out) (fun hHeld => ?_)
          clear hK K
          (try dsimp only [Act.put, List.setIfInBounds_toArray, List.set_cons_zero, List.set_cons_succ])
          refine wpAnyH_ready (rs := [5]) (by kernel_rfl) (by simp) ?_
          refine AllReadyH.cons rfl (fun K hK => ?_) AllReadyH.nil
          go_simp
          refine (HTc.out _ HB2.out).mono ?_
          rintro e w3 ⟨rfl, hk3, hg3⟩
          obtain ⟨q1, q2, q3⟩ := HNx.out _ _ HB2.out hk3 hg3
          refine hK.out _ _ q1 (fun hHeld => ?_)
          clear hK K
          (try dsimp only [Act.put, List.setIfInBounds_toArray, List.set_cons_zero, List.set_cons_succ])
          refine wpAnyH_done (by kernel_rfl) ?_ _
          gi_wp2
          go_roundw
          case rel => exact ⟨j + 1, by omega, by go_num, q2, q3⟩
          case measure => simp [intOf]; omega
        · obtain rfl : j = ws.length := by omega
          obtain ⟨hbw, hgw, g1, hw1, hok, hga⟩ := HI.out
          rw [List.take_length, Hgw.out] at hw1
          obtain rfl : gw = g1 := by cases hw1; rfl
          have HE := Lib.hid (show Kp (noneOr 9) W wr ∧ QI a vars count rest w (k + 1 + 1) wr from ⟨HN.out, hbw, G, gw, hG0, hgw, Hsucc.out, hok.more HMw.out, hga⟩)
          clear hbw hgw hw1 hok hga hlt hj HI HN
          gi_wp2
          exact HE.out
  case done =>
    rintro D W hQI hD hDl
    obtain ⟨hbW, hQI⟩ := hQI
    rw [hNk] at hQI
    obtain ⟨G, g, hG0, hgb', hgl, hgk, v, vs, hGo, hRR⟩ := hQI
    rw [List.take_length, hcls] at hgl
    obtain rfl : g = (out, false) := by cases hgl; rfl
    dsimp only at hGo hRR
    obtain ⟨A, cv, rfl⟩ := hRR.shape
    have c0 := cell_of_row _ _ 0 _ _ _ hgb'
    obtain ⟨g0, g1, g2, g3, g4, f0, f1⟩ := GAt.cells hGo
    have hlt : decide ((out.length : Int) < count) = false := by simp; omega
    have hqW := (hbW.block qb hql).trans hq
    have q0 := cell_of_row _ _ 0 _ _ _ hqW
    have q1 := cell_of_row _ _ 1 _ _ _ hqW
    have qf0 := frozen_of_row _ _ 0 _ _ hqW
    have qf1 := frozen_of_row _ _ 1 _ _ hqW
    have HqW := Lib.hid hqW
    have HRd := Lib.hid (show RIntss W (fun b => w.heap.size ≤ b ∧ b < W.heap.size ∧ b ≠ D) (.slice A out.length cv) out from hRR.reads_but fun c t f e => by rw [hD] at e; cases e)
    have HD := Lib.hid hD
    have HbW := Lib.hid hbW
    have Hmay := Lib.hid hmay
    clear hGo hRR hgl hgk hlines hp2 hp3 hcls hall hm hs hq hm1 hgb hcb hqW hbW hgb' hD hmay
    refine wpB_of_wp ?_
    go_wp2
    go_quiet (fail)
    go_wp2
    go_region
    obtain ⟨w3, hw3⟩ : ∃ w3, w3 = (((W.drewN (nq + 1)).setCell ⟨qb, 0, none⟩ (.int .i64 vars)).setCell ⟨qb, 1, none⟩ (.slice A out.length cv)) := ⟨_, rfl⟩
    rw [← hw3]
    have hq0 : (W.drewN (nq + 1)).heap[qb]? = some (.cells #[.int .i64 0, .slice none 0 0] 24 (0, 0)) := HqW.out
    have hq3 : w3.heap[qb]? = some (.cells #[.int .i64 vars, .slice A out.length cv] 24 (0, 0)) := by rw [hw3]; exact heap_setCell_same _ qb 1 _ _ _ (heap_setCell_same _ qb 0 _ _ (.int .i64 vars) hq0)
    have hag : ∀ b, b ≠ qb → w3.heap[b]? = W.heap[b]? := fun b hb => by rw [hw3]; exact (Below.heap_setCell _ ⟨qb, 1, none⟩ _ b hb).trans (Below.heap_setCell (W.drewN (nq + 1)) ⟨qb, 0, none⟩ _ b hb)
    have hz3 : w3.heap.size = W.heap.size := by rw [hw3]; simp
    have hrd3 : RIntss w3 (fun b => w.heap.size ≤ b ∧ b < w3.heap.size ∧ b ≠ D) (.slice A out.length cv) out := RIntss.stable _ _ _ _ _ _ HRd.out (fun b hb => hag b (by have := hb.1; omega)) fun b hb => ⟨hb.1, by rw [hz3]; exact hb.2.1, hb.2.2⟩
    have hk3 : Kp (fun b _ => b < w.heap.size ∧ b ≠ qb) w w3 := ⟨by rw [hw3]; exact HbW.out.os, by rw [hw3]; exact HbW.out.tape, by rw [hw3]; exact HbW.out.output, by rw [hz3]; exact HbW.out.size, fun b o hb hp => (hag b hp.2).trans ((HbW.out.block b hp.1).trans hb)⟩
    have HD3 := Lib.hid ((hag D (by have := HbW.out.size; omega)).trans HD.out)
    have q0' := cell_of_row _ _ 0 _ _ _ hq3
    have q1' := cell_of_row _ _ 1 _ _ _ hq3
    have HM := Lib.hid (satMay_any vars (.slice A out.length cv) out w3 (RIntss.stable.sub hrd3 fun b hb => hb.2.1))
    have Hq3 := Lib.hid hq3
    have Hrd3 := Lib.hid hrd3
    have Hk3 := Lib.hid hk3
    clear q0 q1 qf0 qf1 c0 g0 g1 g2 g3 g4 f0 f1 hlt hq0 hq3 hag hrd3 hk3 hw3 HqW HRd HbW HD
    go_wp2_with (go_at_call 33; refine HM.out.mono ?_; rintro e w4 ⟨rfl, hb4⟩; rw [Hmay.out]; have HB4 := Lib.hid hb4; clear hb4)
    have hb4 := HB4.out
    have hD4 := (hb4.block D (Array.getElem?_eq_some_iff.1 HD3.out).1).trans HD3.out
    have hq4 := (hb4.block qb (Array.getElem?_eq_some_iff.1 Hq3.out).1).trans Hq3.out
    refine ⟨by simp, .inl ⟨_, _, rfl, run_takeDeferred hD4, ?_⟩⟩
    have hne : qb ≠ D := fun e => by rw [e, hD4] at hq4; cases hq4
    refine ⟨.tuple #[], by simp [results, Tryd.results26], rfl, (Hk3.out.trans (Kp.of_below hb4)).putHi (by omega), _, (World.putObj_heap_other hne).trans hq4, ?_⟩
    exact RIntss.stable _ _ _ _ _ _ Hrd3.out (fun b hb => (World.putObj_heap_other hb.2.2).trans (hb4.block b hb.2.1)) fun b hb => ⟨hb.1, by rw [World.putObj_size]; exact Nat.lt_of_lt_of_le hb.2.1 hb4.size⟩
  case panic => rintro D c W h; exact h.elim
end Go.Proofs.YtgfbmidpiamkhaaDoor
