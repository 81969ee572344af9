/- What a deal that is handed to a law holds. -/
import Derived.Test.YtlaihjhkghbfkaaCnfL2
namespace Go.Proofs.Ytlaihjhkghbfkaa
open Go.RowKit Go.ChangeShapes Go.WideShapes Go.ChangeAt Go.Deep Go.Joins

theorem trod_str {P : Program} {H : Type} {enc : TypeId × Value → H} {w : World} {fuel : Nat} {t : TypeId} {cs : List Value} {o : Option (DataW H × List MemPlace)} {x : DataW H × List MemPlace} (ht : P.underlying t = some .string)
    (h : DataW.trod enc P w 0 (fun _ => true) true fuel t cs = o) (ho : o = some x) : ∃ s : ByteArray, cs = [.string s] := by
  subst ho
  obtain ⟨s, h1, _⟩ := DataW.trod_string ht h
  exact ⟨s, h1⟩
theorem trod_key {H : Type} {enc : TypeId × Value → H} {w : World} {fuel : Nat} {cs : List Value} {x : DataW H × List MemPlace}
    (h : DataW.trod enc Try.prog w 0 (fun _ => true) true fuel 47 cs = some x) : ∃ k : KeyD, cs = keyCells k := by
  obtain ⟨xs, n, _, _, hlen, hxl, hf⟩ := DataW.trod_struct Try.underlying47 h
  have hc : cs.length = 4 := hlen.trans (by kernel_rfl)
  have hx4 : xs.length = 4 := hxl
  have g0 := hf 0 _ rfl
  have g1 := hf 1 _ rfl
  have g2 := hf 2 _ rfl
  have g3 := hf 3 _ rfl
  have c1 : Try.prog.cellsOf 9 = 1 := by kernel_rfl
  match cs, hc, xs, hx4 with
  | [a, b, c, d], _, [y0, y1, y2, y3], _ =>
    simp [c1] at g0 g1 g2 g3
    obtain ⟨s0, e0⟩ := trod_str Try.underlying9 g0 rfl
    obtain ⟨s1, e1⟩ := trod_str Try.underlying9 g1 rfl
    obtain ⟨s2, e2⟩ := trod_str Try.underlying9 g2 rfl
    obtain ⟨s3, e3⟩ := trod_str Try.underlying9 g3 rfl
    simp at e0 e1 e2 e3
    exact ⟨(s0, s1, s2, s3), by simp [keyCells, e0, e1, e2, e3]⟩
theorem trod_item {H : Type} {enc : TypeId × Value → H} {w : World} {fuel : Nat} {cs : List Value} {x : DataW H × List MemPlace}
    (h : DataW.trod enc Try.prog w 0 (fun _ => true) true fuel 50 cs = some x) : ∃ k : ItemD, cs = itemCells k := by
  obtain ⟨xs, n, _, _, hlen, hxl, hf⟩ := DataW.trod_struct Try.underlying50 h
  have hc : cs.length = 5 := hlen.trans (by kernel_rfl)
  have hx2 : xs.length = 2 := hxl
  have g0 := hf 0 _ rfl
  have g1 := hf 1 _ rfl
  have c1 : Try.prog.cellsOf 9 = 1 := by kernel_rfl
  have c4 : Try.prog.cellsOf 47 = 4 := by kernel_rfl
  match cs, hc, xs, hx2 with
  | [a, b, c, d, e], _, [y0, y1], _ =>
    simp [c1, c4] at g0 g1
    obtain ⟨k, ek⟩ := trod_key g0
    obtain ⟨s, es⟩ := trod_str Try.underlying9 g1 rfl
    simp at es
    refine ⟨(k, s), ?_⟩
    show [a, b, c, d] ++ [e] = keyCells k ++ [.string s]
    rw [ek, es]
theorem cells_at {w : World} {base : Nat} {a : Addr} {n : Nat} {cs : List Value} (h : w.cells? base a n = some cs) : cs.length = n ∧ ∀ j u, cs[j]? = some u → w.cell? (a.add j) = some u := by
  obtain ⟨_, hl, hat⟩ := World.cells?_some h
  refine ⟨hl, fun j u hu => ?_⟩
  have hj := (List.getElem?_eq_some_iff.1 hu).1
  rw [hat j (by omega), hu]
theorem reads1_items : Reads1 Try.prog 22 RItems := fun {H enc w fuel cs x} h hp => by
  rcases open_slice Try.underlying22 h with ⟨rfl, rfl⟩ | ⟨a, len, cap, m, n, D, Pl, rfl, _, hlc, hcm, hm, rfl, hat⟩
  · exact ⟨_, [], rfl, ⟨none, 0, rfl, Nat.le_refl _, Nat.zero_le _, fun h => absurd h (by simp)⟩⟩
  · simp only [if_true] at hm
    subst hm
    have c5 : Try.prog.cellsOf 50 = 5 := by kernel_rfl
    rw [c5] at hat
    obtain ⟨l, hl, hat'⟩ := choose_list (n := len) (p := fun i (it : ItemD) => ∀ j u, (itemCells it)[j]? = some u → w.cell? ((a.add (i * 5)).add j) = some u) (fun i hi => by
      obtain ⟨cs', hcs, htr⟩ := hat i (by omega)
      obtain ⟨it, rfl⟩ := trod_item htr
      exact ⟨it, (cells_at hcs).2⟩)
    refine ⟨_, l, rfl, some a, m, by rw [hl], by omega, hcm, fun hpos => ?_⟩
    have h00 := hat' 0 hpos 0 _ rfl
    have hsp := spot_none (w := w) (a := a) (by simpa [Addr.add] using h00)
    refine ⟨a.block, a.off, by rw [← hsp], ?_, fun k hk j u hu => ?_⟩
    · have := World.block_lt_of_cell? w _ h00
      simpa [Lt, block_of_add] using this
    · have := hat' k hk j u hu
      rw [hsp, add_none, add_none] at this
      exact this
theorem reads1_intsW : Reads1 Try.prog 39 (RSl RIntW) := reads1_slice Try.underlying39 (by kernel_rfl) (reads1_int Try.underlying3)
theorem RSl.weak {w : World} {S : Nat → Prop} {v : Value} {l : List Int} (h : RSl RIntW w S v l) : RInts w S v l := h.map_ fun _ _ _ h => h.1
theorem reads1_map {α : Type} {P : Program} {t : TypeId} {R R' : Rd α} (h : Reads1 P t R) (hm : ∀ w S v x, R w S v x → R' w S v x) : Reads1 P t R' := fun h1 h2 => by
  obtain ⟨v, d, e, hd⟩ := h h1 h2
  exact ⟨v, d, e, hm _ _ _ _ hd⟩
theorem reads1_ints : Reads1 Try.prog 39 RInts := reads1_map reads1_intsW fun _ _ _ _ h => h.weak
theorem reads1_intss : Reads1 Try.prog 32 RIntss := reads1_slice Try.underlying32 (by kernel_rfl) reads1_ints
theorem reads1_intsss : Reads1 Try.prog 23 RIntsss := reads1_slice Try.underlying23 (by kernel_rfl) reads1_intss
theorem reads1_bools : Reads1 Try.prog 40 RBools := reads1_slice Try.underlying40 (by kernel_rfl) (reads1_bool Try.underlying4)
theorem arg_deal {w : World} {v : Value} (h : Arg Try.prog w 25 v) : ∃ s0 s1 r items wss, v = .agg #[s0, s1, .int .i64 r] ∧ RItems w (Lt w.heap.size) s0 items ∧ RIntsss w (Lt w.heap.size) s1 wss ∧ -9223372036854775808 ≤ r ∧ r ≤ 9223372036854775807 := by
  obtain ⟨H, enc, base, d, p, hv, ht, hlt⟩ := h
  obtain ⟨c0, c1, c2, y0, y1, y2, m, rfl, _, hp, hy0, hy1, hy2⟩ := open_agg3 Try.underlying25 (by kernel_rfl) (by kernel_rfl) hv ht
  obtain ⟨u0, items, e0, r0⟩ := reads1_items hy0 (fun q hq => hlt q (by rw [hp]; simp [hq]))
  obtain ⟨u1, wss, e1, r1⟩ := reads1_intsss hy1 (fun q hq => hlt q (by rw [hp]; simp [hq]))
  obtain ⟨u2, r, e2, r2⟩ := reads1_int Try.underlying3 hy2 (fun q hq => hlt q (by rw [hp]; simp [hq]))
  simp at e0 e1 e2
  subst e0 e1 e2
  obtain ⟨rfl, h1, h2⟩ := r2
  exact ⟨_, _, r, items, wss, rfl, r0, r1, h1, h2⟩
theorem arg_slice {α : Type} {w : World} {t e : TypeId} {v : Value} {R : Rd (List α)} (h : Arg Try.prog w t v) (ht : Try.prog.underlying t = some (.slice e)) (hR : Reads1 Try.prog t R) : ∃ l, R w (Lt w.heap.size) v l := by
  refine h.read1 hR fun cs e => ?_
  subst e
  obtain ⟨H, enc, base, d, p, hv, _⟩ := h
  obtain ⟨a0, len, cap, e⟩ := okWide_slice ht hv
  cases e
end Go.Proofs.Ytlaihjhkghbfkaa
