/- The document's example of a deal whose wants can't be met together, and that it is as the document says. / What wants that are handed to a law hold. -/
import Derived.OpenShut
import Derived.Test.YtcebafeaikipmaaCa4
import Derived.Test.YtcebafeaikipmaaCb6
namespace Go.Proofs.Ytcebafeaikipmaa
open Go.RowKit

theorem rsl_lit {α : Type} {R : Rd α} {W : World} {S : Nat → Prop} {b n : Nat} {t : TypeId} {f : Nat × Nat} {vs : Array Value} {l : List α} (h : W.heap[b]? = some (.cells vs t f)) (hS : S b) (hn : n = l.length) (hm : l.length ≤ 1000) (hr : ∀ k (h : k < l.length), ∃ u, vs[k]? = some u ∧ R W S u l[k]) :
    RSl R W S (.slice (some ⟨b, 0, none⟩) n n) l := by
  subst hn
  refine ⟨_, l.length, rfl, Nat.le_refl _, by unfold maxLen; omega, fun _ => ⟨b, 0, rfl, hS, fun k hk => ?_⟩⟩
  obtain ⟨u, hu, hr⟩ := hr k hk
  exact ⟨u, by rw [Nat.zero_add, cell_of_row _ _ _ _ _ _ h]; exact hu, hr⟩
def bC : ByteArray := ⟨#[99]⟩
def bD : ByteArray := ⟨#[100]⟩
def xItems : List ItemD := [((bG, bA, bJar, ⟨#[]⟩), b1), ((bG, bB, bJar, ⟨#[]⟩), b1), ((bG, bC, bJar, ⟨#[]⟩), b1), ((bG, bD, bJar, ⟨#[]⟩), b1), ((bG, bD, bJar, ⟨#[]⟩), b2)]
def xWants : List (List (List Int)) := [[[1], [2]], [[3]], [[4]], [], []]
set_option maxRecDepth 100000 in
theorem item_any (a v : ByteArray) (w : World) : Calls Try.prog 34 #[.string a, .string v] w fun e w' => e = .returned (.agg #[.string bG, .string a, .string bJar, .string ⟨#[]⟩, .string v]) ∧ w' = w.alloc (.cells #[.string bG, .string a, .string bJar, .string ⟨#[]⟩, .string v] 35) := by
  go_enter Try.func34, Try.ntmps34
  go_wp2
  refine bodyPost_ret (results_cell_row rfl _ _ w.heap.size _ _ (0, 0) _ rfl (heap_alloc_new w _) Try.underlying35 rfl (by kernel_rfl)) rfl ⟨rfl, rfl⟩
theorem x_may : mayN xItems.length 0 xWants = 0 := by decide +kernel
theorem x_light : lightC xItems.length xWants = true := by decide +kernel
theorem x_least : ofC (.ok (blamedB xItems xWants 0)) (.ok (leastL (fun m => blamedB xItems (onlyW m xWants) 0) (allW xWants) (allW xWants))) = .ok (some [(0, 0), (0, 1), (1, 0), (2, 0)]) := by
  have h1 : blamedB xItems xWants 0 = true := by decide +kernel
  have h2 : leastL (fun m => blamedB xItems (onlyW m xWants) 0) (allW xWants) (allW xWants) = [(0, 0), (0, 1), (1, 0), (2, 0)] := by decide +kernel
  rw [h1, h2]; rfl
theorem x_all : (allW xWants).length = 4 := by decide +kernel
def ExPost (w : World) (e : Ending) (w' : World) : Prop :=
  ∃ s0 s1, e = .returned (.agg #[s0, s1, .int .i64 0]) ∧ RItems w' (Lt w'.heap.size) s0 xItems ∧ RIntsss w' (Lt w'.heap.size) s1 xWants ∧ Below w.heap.size w w'
theorem xReads {W : World} {c0 c1 c2 c3 c4 c5 c6 c7 c8 : Nat} {t0 t1 t2 t3 t4 t5 t6 t7 t8 : TypeId} {f : Nat × Nat} (h0 : W.heap[c0]? = some (.cells (xItems.flatMap itemCells).toArray t0 f)) (h1 : W.heap[c1]? = some (.cells #[.int .i64 1] t1 f)) (h2 : W.heap[c2]? = some (.cells #[.int .i64 2] t2 f))
    (h3 : W.heap[c3]? = some (.cells #[.slice (some ⟨c1, 0, none⟩) 1 1, .slice (some ⟨c2, 0, none⟩) 1 1] t3 f)) (h4 : W.heap[c4]? = some (.cells #[.int .i64 3] t4 f)) (h5 : W.heap[c5]? = some (.cells #[.slice (some ⟨c4, 0, none⟩) 1 1] t5 f)) (h6 : W.heap[c6]? = some (.cells #[.int .i64 4] t6 f))
    (h7 : W.heap[c7]? = some (.cells #[.slice (some ⟨c6, 0, none⟩) 1 1] t7 f)) (h8 : W.heap[c8]? = some (.cells #[.slice (some ⟨c3, 0, none⟩) 2 2, .slice (some ⟨c5, 0, none⟩) 1 1, .slice (some ⟨c7, 0, none⟩) 1 1, .slice none 0 0, .slice none 0 0] t8 f)) :
    RItems W (Lt W.heap.size) (.slice (some ⟨c0, 0, none⟩) 5 5) xItems ∧ RIntsss W (Lt W.heap.size) (.slice (some ⟨c8, 0, none⟩) 5 5) xWants := by
  have lt : ∀ {c : Nat} {o : Obj}, W.heap[c]? = some o → c < W.heap.size := fun h => (Array.getElem?_eq_some_iff.1 h).1
  have one : ∀ {c : Nat} {t : TypeId} {n : Int}, W.heap[c]? = some (.cells #[.int .i64 n] t f) → RInts W (Lt W.heap.size) (.slice (some ⟨c, 0, none⟩) 1 1) [n] := fun h => rsl_lit h (lt h) rfl (by simp) fun k hk => by
    match k, hk with
    | 0, _ => exact ⟨_, rfl, rfl⟩
  refine ⟨⟨_, 5, rfl, Nat.le_refl _, by unfold maxLen; omega, fun _ => ⟨c0, 0, rfl, lt h0, fun k hk j u hu => ?_⟩⟩, rsl_lit h8 (lt h8) rfl (by decide) fun k hk => ?_⟩
  · have hj : j < 5 := by rw [← itemCells_len xItems[k]]; exact (List.getElem?_eq_some_iff.1 hu).1
    rw [← flatMap_cells itemCells_len xItems k j hk hj] at hu
    rw [cell_of_row _ _ _ _ _ _ h0, Nat.zero_add]
    simpa using hu
  · match k, hk with
    | 0, _ => exact ⟨_, rfl, rsl_lit h3 (lt h3) rfl (by simp [xWants]) fun k hk => by
        match k, hk with
        | 0, _ => exact ⟨_, rfl, one h1⟩
        | 1, _ => exact ⟨_, rfl, one h2⟩⟩
    | 1, _ => exact ⟨_, rfl, rsl_lit h5 (lt h5) rfl (by simp [xWants]) fun k hk => by
        match k, hk with
        | 0, _ => exact ⟨_, rfl, one h4⟩⟩
    | 2, _ => exact ⟨_, rfl, rsl_lit h7 (lt h7) rfl (by simp [xWants]) fun k hk => by
        match k, hk with
        | 0, _ => exact ⟨_, rfl, one h6⟩⟩
    | 3, _ => exact ⟨_, rfl, RSl.nil_ _ _ _⟩
    | 4, _ => exact ⟨_, rfl, RSl.nil_ _ _ _⟩
set_option maxRecDepth 100000 in
set_option maxHeartbeats 2000000 in
theorem example_any (w : World) : Calls Try.prog 21 #[] w (ExPost w) := by
  have hI := item_any
  simp only [bG, bJar] at hI
  go_enter Try.func21, Try.ntmps21
  go_wp2_with (go_at_call 34; with_reducible refine (hI _ _ _).mono ?_; rintro e w1 ⟨rfl, rfl⟩)
  refine bodyPost_ret (v := .agg #[.slice (some ⟨w.heap.size + 1 + 1 + 1 + 1 + 1 + 1, 0, none⟩) 5 5, .slice (some ⟨w.heap.size + 1 + 1 + 1 + 1 + 1 + 1 + 1 + 1 + 1 + 1 + 1 + 1 + 1 + 1, 0, none⟩) 5 5, .int .i64 0]) (by simp [results, Try.results21, go_sem]) rfl ?_
  refine ⟨_, _, rfl, ?_⟩
  have hB : ∀ (W : World) (o : Obj), Below w.heap.size w W → Below w.heap.size w (W.alloc o) := fun W o h => h.alloc h.size o
  refine and_assoc.1 ⟨xReads (f := (0, 0)) (t0 := 35) (t1 := 3) (t2 := 3) (t3 := 37) (t4 := 3) (t5 := 37) (t6 := 3) (t7 := 37) (t8 := 36) (c1 := w.heap.size + 1 + 1 + 1 + 1 + 1 + 1 + 1) (c2 := w.heap.size + 1 + 1 + 1 + 1 + 1 + 1 + 1 + 1) (c3 := w.heap.size + 1 + 1 + 1 + 1 + 1 + 1 + 1 + 1 + 1) (c4 := w.heap.size + 1 + 1 + 1 + 1 + 1 + 1 + 1 + 1 + 1 + 1) (c5 := w.heap.size + 1 + 1 + 1 + 1 + 1 + 1 + 1 + 1 + 1 + 1 + 1) (c6 := w.heap.size + 1 + 1 + 1 + 1 + 1 + 1 + 1 + 1 + 1 + 1 + 1 + 1) (c7 := w.heap.size + 1 + 1 + 1 + 1 + 1 + 1 + 1 + 1 + 1 + 1 + 1 + 1 + 1) ?_ ?_ ?_ ?_ ?_ ?_ ?_ ?_ ?_, ?_⟩
  any_goals (repeat (first | (refine heap_new ?_; simp; done) | refine heap_at_alloc ?_))
  repeat (first | exact Below.refl _ _ | refine hB _ _ ?_)
set_option maxRecDepth 100000 in
set_option maxHeartbeats 2000000 in
theorem lives_any (w : World) : Calls Try.prog 9 #[] w fun e w' => e = .returned (.bool true) ∧ Below w.heap.size w w' := by
  obtain ⟨B, hB⟩ : ∃ B : List WantD → Except (Int × Int) Bool, ∀ m, B m = .ok (blamedB xItems (onlyW m xWants) 0) := ⟨_, fun _ => rfl⟩
  have hO : ∀ m, IbR xItems (onlyW m xWants) 0 100 (B m) := fun m => by
    rw [hB]
    exact ⟨only_may m x_may, by omega, never_open5 (only_may m x_may) (only_light m x_light) (by decide), rfl⟩
  have hO0 : IbR xItems xWants 0 100 (.ok (blamedB xItems xWants 0)) := ⟨x_may, by omega, never_open5 x_may x_light (by decide), rfl⟩
  have hof : ofC (.ok (blamedB xItems xWants 0)) (leastO B (allW xWants) (allW xWants)) = .ok (some [(0, 0), (0, 1), (1, 0), (2, 0)]) := by
    rw [leastO_ok hB]; exact x_least
  have HOf := Lib.hid (fun (W : World) (s0 s1 : Value) (h0 : RItems W (Lt W.heap.size) s0 xItems) (h1 : RIntsss W (Lt W.heap.size) s1 xWants) => show Calls Try.prog 15 #[.agg #[s0, s1, .int .i64 0], .int .i64 100] W fun e w' => ∃ A c, e = .returned (.tuple #[.slice A 4 c, .int .i64 2, .int .i64 0]) ∧ RWants w' (Lt w'.heap.size) (.slice A 4 c) [(0, 0), (0, 1), (1, 0), (2, 0)] ∧ Below W.heap.size W w' by
    refine (of_any s0 s1 0 100 xItems xWants W _ B h0 h1 x_light (by omega) (by omega) hO0 hO).mono ?_
    rintro e w' ⟨v, rfl, hr, hb⟩
    rw [hof] at hr ⊢
    obtain ⟨A, c, rfl⟩ := hr.shape
    exact ⟨A, c, rfl, hr, hb⟩)
  clear hB hO hO0 hof
  go_enter Try.func9, Try.ntmps9
  go_upto_region 2 with (first
    | (go_at_call 21; with_reducible refine (example_any _).mono ?_; rintro e w1 hq; go_loud (unfold ExPost at hq; obtain ⟨s0, s1, rfl, h0, h1, b1⟩ := hq; have H0 := Lib.hid h0; have H1 := Lib.hid h1; have HB1 := Lib.hid b1; clear h0 h1 b1))
    | (go_at_call 15; with_reducible refine (HOf.out _ _ _ H0.out H1.out).mono ?_; rintro e w2 ⟨A, c, rfl, hr, b2⟩; go_loud (have HR := Lib.hid hr; have HB2 := Lib.hid (HB1.out.trans (b2.mono HB1.out.size)); clear hr b2)))
  obtain ⟨A', c', e', hm', hat⟩ := HR.out.open_
  simp only [Value.slice.injEq] at e'
  obtain ⟨rfl, -, rfl⟩ := e'
  obtain ⟨b, off, rfl, hb, hc1, hc2⟩ := RWants.at2 hat (Below.refl _ _) (k := 0) (by decide)
  obtain ⟨b', off', e2, hb', hc3, hc4⟩ := RWants.at2 hat (Below.refl _ _) (k := 3) (by decide)
  cases e2
  simp only [List.getElem_cons_zero, List.getElem_cons_succ, Nat.zero_mul, Nat.add_zero, Nat.reduceMul] at hc1 hc2 hc3 hc4
  have hq1 := fun w => eqWant w 0 0 0 0
  have hq2 := fun w => eqWant w 2 0 2 0
  simp only [beq_self_eq_true] at hq1 hq2
  clear hat hm' HOf
  go_wp2_with (first
    | (go_at_call 21; with_reducible refine (example_any _).mono ?_; rintro e w3 hq; go_loud (unfold ExPost at hq; obtain ⟨s0', s1', rfl, h0, h1, b1⟩ := hq; obtain ⟨A0, c0, rfl, hm0, -⟩ := h0.open_; have H1' := Lib.hid h1; have HB3 := Lib.hid (HB2.out.trans (b1.mono HB2.out.size)); clear h0 h1 b1))
    | (go_at_call 13; with_reducible refine (All_any _ _ _ _ _ xWants _ H1'.out (by decide) (by decide)).mono ?_; rintro e w4 ⟨v4, rfl, ho4, b4⟩; go_loud (obtain ⟨A4, c4, rfl⟩ := ho4.shape; rw [x_all]; have HB4 := Lib.hid (HB3.out.trans (b4.mono HB3.out.size)); clear ho4 b4)))
  go_ret
  exact ⟨rfl, HB4.out⟩
end Go.Proofs.Ytcebafeaikipmaa

namespace Go.Proofs.Ytcebafeaikipmaa
set_option maxRecDepth 100000
open Go.RowKit Go.ChangeShapes Go.WideShapes Go.ChangeAt Go.Deep Go.Joins

theorem trod_want {H : Type} {enc : TypeId × Value → H} {w : World} {fuel : Nat} {cs : List Value} {x : DataW H × List MemPlace}
    (h : DataW.trod enc Try.prog w 0 (fun _ => true) true fuel 44 cs = some x) : ∃ k : WantD, cs = wantCells k := by
  obtain ⟨xs, m, _, _, hl0, hl, hx⟩ := Go.DataW.trod_array Try.underlying44 h
  have hc : cs.length = 2 := hl0.trans (by kernel_rfl)
  have c1 : Try.prog.cellsOf 3 = 1 := by kernel_rfl
  have g0 := hx 0 (by omega)
  have g1 := hx 1 (by omega)
  rw [List.getElem?_eq_getElem (by omega), c1] at g0 g1
  match cs, hc with
  | [a, b], _ =>
    simp at g0 g1
    obtain ⟨n0, e0, _⟩ := DataW.trod_int Try.underlying3 g0
    obtain ⟨n1, e1, _⟩ := DataW.trod_int Try.underlying3 g1
    refine ⟨(n0, n1), ?_⟩
    simp at e0 e1
    rw [e0, e1]; rfl
theorem reads1_wants : Reads1 Try.prog 26 RWants := fun {H enc w fuel cs x} h hp => by
  rcases open_slice Try.underlying26 h with ⟨rfl, rfl⟩ | ⟨a, len, cap, m, n, D, Pl, rfl, _, hlc, hcm, hm, rfl, hat⟩
  · exact ⟨_, [], rfl, ⟨none, 0, rfl, Nat.le_refl _, Nat.zero_le _, fun h => absurd h (by simp)⟩⟩
  · simp only [if_true] at hm
    subst hm
    have c5 : Try.prog.cellsOf 44 = 2 := by kernel_rfl
    rw [c5] at hat
    obtain ⟨l, hl, hat'⟩ := choose_list (n := len) (p := fun i (it : WantD) => ∀ j u, (wantCells it)[j]? = some u → w.cell? ((a.add (i * 2)).add j) = some u) (fun i hi => by
      obtain ⟨cs', hcs, htr⟩ := hat i (by omega)
      obtain ⟨it, rfl⟩ := trod_want htr
      exact ⟨it, (cells_at hcs).2⟩)
    refine ⟨_, l, rfl, some a, m, by rw [hl], by omega, hcm, fun hpos => ?_⟩
    have h00 := hat' 0 hpos 0 _ rfl
    have hsp := spot_none (w := w) (a := a) (by simpa [Addr.add] using h00)
    refine ⟨a.block, a.off, by rw [← hsp], ?_, fun k hk j u hu => ?_⟩
    · have := World.block_lt_of_cell? w _ h00
      simpa [Lt, block_of_add] using this
    · have := hat' k hk j u hu
      rw [hsp, add_none, add_none] at this
      exact this
theorem arg_int {w : World} {v : Value} (h : Arg Try.prog w 3 v) : ∃ n : Int, v = .int .i64 n ∧ -9223372036854775808 ≤ n ∧ n ≤ 9223372036854775807 := by
  obtain ⟨H, enc, base, d, p, hw, hd, _⟩ := h
  obtain ⟨n, hx, _, _, hf⟩ := open_int Try.underlying3 hw hd
  refine ⟨n, hx, ?_⟩
  simp only [Lit.wf, Bool.and_eq_true, decide_eq_true_eq] at hf
  exact hf
end Go.Proofs.Ytcebafeaikipmaa
