/- What texts and properties that are handed to a law hold. -/
import Derived.Test.YtpgdioopkcfjdaaPrW8
import Derived.ChangeSame
import Derived.Lib.SmallJoins
namespace Go.Proofs.Ytpgdioopkcfjdaa
open Go.RowKit Go.ChangeShapes Go.WideShapes Go.ChangeAt Go.Deep Go.Joins

theorem arg_text {w : World} {v : Value} (h : Arg Try.prog w 9 v) : ∃ s : Bs, v = sv s := by
  obtain ⟨H, enc, base, d, p, hw, hd, _⟩ := h
  obtain ⟨s, rfl⟩ := okWide_string Try.underlying9 hw
  exact ⟨s.data.toList, congrArg Value.string (bz_of s)⟩
theorem trod_txt {P : Program} {H : Type} {enc : TypeId × Value → H} {w : World} {fuel : Nat} {t : TypeId} {cs : List Value} {o : Option (DataW H × List MemPlace)} {x : DataW H × List MemPlace} (ht : P.underlying t = some .string)
    (h : DataW.trod enc P w 0 (fun _ => true) true fuel t cs = o) (ho : o = some x) : ∃ s : Bs, cs = [sv s] := by
  subst ho
  obtain ⟨s, h1, _⟩ := DataW.trod_string ht h
  exact ⟨s.data.toList, by rw [h1]; exact congrArg (fun x => [Value.string x]) (bz_of s)⟩
set_option maxRecDepth 100000 in
theorem trod_prop {H : Type} {enc : TypeId × Value → H} {w : World} {fuel : Nat} {cs : List Value} {x : DataW H × List MemPlace}
    (h : DataW.trod enc Try.prog w 0 (fun _ => true) true fuel 42 cs = some x) : ∃ p : Bs × Bs, cs = pcells p := by
  obtain ⟨xs, n, _, _, hlen, hxl, hf⟩ := DataW.trod_struct Try.underlying42 h
  have hc : cs.length = 2 := hlen.trans (by kernel_rfl)
  have hx2 : xs.length = 2 := hxl
  have g0 := hf 0 _ rfl
  have g1 := hf 1 _ rfl
  have c1 : Try.prog.cellsOf 9 = 1 := by kernel_rfl
  match cs, hc, xs, hx2 with
  | [a, b], _, [y0, y1], _ =>
    simp [c1] at g0 g1
    obtain ⟨s0, e0⟩ := trod_txt Try.underlying9 g0 rfl
    obtain ⟨s1, e1⟩ := trod_txt Try.underlying9 g1 rfl
    simp at e0 e1
    exact ⟨(s0, s1), by simp [pcells, e0, e1]⟩
theorem cells_at {w : World} {base : Nat} {a : Addr} {n : Nat} {cs : List Value} (h : w.cells? base a n = some cs) : cs.length = n ∧ ∀ j u, cs[j]? = some u → w.cell? (a.add j) = some u := by
  obtain ⟨_, hl, hat⟩ := World.cells?_some h
  refine ⟨hl, fun j u hu => ?_⟩
  have hj := (List.getElem?_eq_some_iff.1 hu).1
  rw [hat j (by omega), hu]
theorem reads1_props : Reads1 Try.prog 22 RProps := fun {H enc w fuel cs x} h hp => by
  rcases open_slice Try.underlying22 h with ⟨rfl, rfl⟩ | ⟨a, len, cap, m, n, D, Pl, rfl, _, hlc, hcm, hm, rfl, hat⟩
  · exact ⟨_, [], rfl, ⟨none, 0, rfl, Nat.le_refl _, Nat.zero_le _, fun h => absurd h (by simp)⟩⟩
  · simp only [if_true] at hm
    subst hm
    have c2 : Try.prog.cellsOf 42 = 2 := by kernel_rfl
    rw [c2] at hat
    obtain ⟨l, hl, hat'⟩ := choose_list (n := len) (p := fun i (it : Bs × Bs) => ∀ j u, (pcells it)[j]? = some u → w.cell? ((a.add (i * 2)).add j) = some u) (fun i hi => by
      obtain ⟨cs', hcs, htr⟩ := hat i (by omega)
      obtain ⟨it, rfl⟩ := trod_prop htr
      exact ⟨it, (cells_at hcs).2⟩)
    refine ⟨_, l, rfl, some a, m, by rw [hl], by omega, hcm, fun hpos => ?_⟩
    have h00 := hat' 0 hpos 0 _ rfl
    have hsp := spot_none (w := w) (a := a) (by simpa [Addr.add] using h00)
    refine ⟨a.block, a.off, by rw [← hsp], ?_, fun k hk j u hu => ?_⟩
    · have := World.block_lt_of_cell? w _ h00
      simpa [Lt, block_of_add] using this
    · have := hat' k hk j u hu
      rw [hsp, add_none, add_none] at this
      exact this
set_option maxRecDepth 100000 in
theorem arg_props {w : World} {v : Value} (h : Arg Try.prog w 22 v) : ∃ L : PL, RProps w (Lt w.heap.size) v L := by
  have hv : ∀ cs, v ≠ .agg cs := fun cs e => by
    obtain ⟨H, enc, base, d, p, hw, _⟩ := h
    obtain ⟨a0, len, cap, e'⟩ := okWide_slice Try.underlying22 hw
    rw [e] at e'; cases e'
  exact h.read1 reads1_props hv
set_option maxRecDepth 100000 in
theorem arg_txts {w : World} {v : Value} (h : Arg Try.prog w 23 v) : ∃ L : List Bs, RTxs w (Lt w.heap.size) v L := by
  have hv : ∀ cs, v ≠ .agg cs := fun cs e => by
    obtain ⟨H, enc, base, d, p, hw, _⟩ := h
    obtain ⟨a0, len, cap, e'⟩ := okWide_slice Try.underlying23 hw
    rw [e] at e'; cases e'
  obtain ⟨l, A, c, hv, h1, h2, h3⟩ := h.read1 (reads1_slice Try.underlying23 (by kernel_rfl) (reads1_string Try.underlying9)) hv
  refine ⟨l.map fun s => s.data.toList, A, c, by simpa using hv, by simpa using h1, h2, fun hp => ?_⟩
  obtain ⟨b, off, e, hb, hc⟩ := h3 (by simpa using hp)
  refine ⟨b, off, e, hb, fun k hk => ?_⟩
  obtain ⟨u, hu, hR⟩ := hc k (by simpa using hk)
  refine ⟨u, hu, ?_⟩
  rw [List.getElem_map]
  exact hR.1.trans (congrArg Value.string (bz_of _))
end Go.Proofs.Ytpgdioopkcfjdaa
