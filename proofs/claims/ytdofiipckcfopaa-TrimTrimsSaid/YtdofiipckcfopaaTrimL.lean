/- Which questions are light, and the document's example of the layer trim. -/
import Derived.Test.YtdofiipckcfopaaTrimW8
namespace Go.Proofs.Ytdofiipckcfopaa
open Go.RowKit

def lightQ (v : Int) (C : Cls) : Bool := decide (v ≤ 30) && decide (C.length ≤ 60) && C.all fun c => decide (c.length ≤ 20)
set_option maxHeartbeats 1000000 in
theorem light_any (v : Int) (s : Value) (C : Cls) (w : World) (hs : RIntss w (Lt w.heap.size) s C) :
    Calls Try.prog 8 #[.agg #[.int .i64 v, s]] w fun e w' => e = .returned (.bool (lightQ v C)) ∧ Below w.heap.size w w' := by
  obtain ⟨A, c, rfl, hm, hat⟩ := hs.open_
  have hb : Below w.heap.size w (w.alloc (.cells #[.int .i64 v, .slice A C.length c] 24)) := (Below.refl _ _).alloc (Nat.le_refl _) _
  have Hb := Lib.hid hb; clear hb
  have Hat := Lib.hid hat; clear hat
  by_cases h1 : 30 < v
  · have Hd := Lib.hid (show lightQ v C = false by simp [lightQ]; omega)
    go_enter Try.func8, Try.ntmps8
    go_wp2
    go_ret
    exact ⟨ret_bool Hd.out.symm, Hb.out⟩
  by_cases h2 : 60 < C.length
  · have Hd := Lib.hid (show lightQ v C = false by simp [lightQ]; omega)
    go_enter Try.func8, Try.ntmps8
    go_wp2
    go_ret
    exact ⟨ret_bool Hd.out.symm, Hb.out⟩
  go_enter Try.func8, Try.ntmps8
  go_wp2
  go_loop [17] (fun sv => ∃ k : Nat, k ≤ (C).length ∧ sv = .int .i64 k ∧ Hid ((C.take k).all (fun c => decide (c.length ≤ 20)) = true)) (fun sv => (C).length - (intOf sv).toNat)
  case atStart => exact ⟨0, Nat.zero_le _, rfl, rfl⟩
  case round =>
    obtain ⟨k, hkle, rfl, hkinv⟩ := hrel
    by_cases hklt : k < (C).length
    · obtain ⟨bk, offk, uk, rfl, hbk, hcellk, huk⟩ := Hat.out.lt_ hklt
      obtain ⟨A2, c2, rfl, hm2, hat2⟩ := huk.open_
      clear hat2 huk
      by_cases h3 : 20 < C[k].length
      · have Hd := Lib.hid (show lightQ v C = false by unfold lightQ; rw [all_at (h := hklt) (by simp; omega)]; simp)
        go_wp2
        go_ret
        exact ⟨ret_bool Hd.out.symm, Hb.out⟩
      · go_wp2
        go_round
        case rel => exact ⟨k + 1, by omega, by go_num, (by rw [Hid, all_take_succ _ _ _ hklt, hkinv.out]; simp; omega)⟩
        case measure => simp [intOf]; omega
    · obtain rfl : k = (C).length := by omega
      rw [List.take_length] at hkinv
      have Hd := Lib.hid (show lightQ v C = true by unfold lightQ; rw [hkinv.out]; simp; omega)
      go_wp2
      go_ret
      exact ⟨ret_bool Hd.out.symm, Hb.out⟩

def exC : Cls := [[1, 2], [-1], [2, 3], [2, 3, 4]]
theorem ex_run {t : TrS} (h : RunTo 4 (startS exC) t) : t = ⟨[], [-1, 2], [-1, 2], false⟩ := by
  refine h.unique ⟨?_, .inr (by decide +kernel)⟩
  refine .head (a := ⟨[[2], [2, 3], [2, 3, 4]], [-1], [-1], false⟩) rfl (by kernel_rfl) ?_
  refine .head (a := ⟨[], [-1, 2], [-1, 2], false⟩) rfl (by kernel_rfl) ?_
  exact .refl _
theorem ex_may : satMayN 4 exC = 0 := by decide +kernel
theorem ex_reads {W : World} {b0 b1 b2 b3 b4 : Nat} {f0 f1 f2 f3 f4 : Nat × Nat} {t0 t1 t2 t3 t4 : TypeId} (h0 : W.heap[b0]? = some (.cells #[.int .i64 1, .int .i64 2] t0 f0)) (h1 : W.heap[b1]? = some (.cells #[.int .i64 (-1)] t1 f1)) (h2 : W.heap[b2]? = some (.cells #[.int .i64 2, .int .i64 3] t2 f2))
    (h3 : W.heap[b3]? = some (.cells #[.int .i64 2, .int .i64 3, .int .i64 4] t3 f3)) (h4 : W.heap[b4]? = some (.cells #[.slice (some ⟨b0, 0, none⟩) 2 2, .slice (some ⟨b1, 0, none⟩) 1 1, .slice (some ⟨b2, 0, none⟩) 2 2, .slice (some ⟨b3, 0, none⟩) 3 3] t4 f4)) :
    RIntss W (Lt W.heap.size) (.slice (some ⟨b4, 0, none⟩) 4 4) exC := by
  have lt : ∀ {b : Nat} {o : Obj}, W.heap[b]? = some o → b < W.heap.size := fun h => (Array.getElem?_eq_some_iff.1 h).1
  refine rows_block (vs := [.slice (some ⟨b0, 0, none⟩) 2 2, .slice (some ⟨b1, 0, none⟩) 1 1, .slice (some ⟨b2, 0, none⟩) 2 2, .slice (some ⟨b3, 0, none⟩) 3 3]) h4 (lt h4) rfl (by omega) rfl fun i hi u hu => ?_
  match i, hi with
  | 0, _ => cases hu; exact ints_block (l := [1, 2]) h0 (lt h0) rfl (by omega)
  | 1, _ => cases hu; exact ints_block (l := [-1]) h1 (lt h1) rfl (by omega)
  | 2, _ => cases hu; exact ints_block (l := [2, 3]) h2 (lt h2) rfl (by omega)
  | 3, _ => cases hu; exact ints_block (l := [2, 3, 4]) h3 (lt h3) rfl (by omega)
set_option maxRecDepth 100000 in
set_option maxHeartbeats 2000000 in
theorem lives_any (w : World) : Calls Try.prog 9 #[] w fun e w' => e = .returned (.bool true) ∧ Below w.heap.size w w' := by
  go_enter Try.func9, Try.ntmps9
  go_wp2_with fail
  have hr := ex_reads (W := ((((w.alloc (.cells #[.int .i64 1, .int .i64 2] 3)).alloc (.cells #[.int .i64 (-1)] 3)).alloc (.cells #[.int .i64 2, .int .i64 3] 3)).alloc (.cells #[.int .i64 2, .int .i64 3, .int .i64 4] 3)).alloc (.cells #[.slice (some ⟨w.heap.size, 0, none⟩) 2 2, .slice (some ⟨w.heap.size + 1, 0, none⟩) 1 1, .slice (some ⟨w.heap.size + 1 + 1, 0, none⟩) 2 2, .slice (some ⟨w.heap.size + 1 + 1 + 1, 0, none⟩) 3 3] 27))
    (b0 := w.heap.size) (b1 := w.heap.size + 1) (b2 := w.heap.size + 1 + 1) (b3 := w.heap.size + 1 + 1 + 1) (b4 := w.heap.size + 1 + 1 + 1 + 1)
    (heap_at_alloc (heap_at_alloc (heap_at_alloc (heap_at_alloc (heap_new rfl))))) (heap_at_alloc (heap_at_alloc (heap_at_alloc (heap_new (by simp))))) (heap_at_alloc (heap_at_alloc (heap_new (by simp)))) (heap_at_alloc (heap_new (by simp))) (heap_new (by simp))
  have Hr := Lib.hid hr; clear hr
  have Hbw := Lib.hid (((((below_alloc w (.cells #[.int .i64 1, .int .i64 2] 3)).alloc (by simp) (.cells #[.int .i64 (-1)] 3)).alloc (by simp; omega) (.cells #[.int .i64 2, .int .i64 3] 3)).alloc (by simp; omega) (.cells #[.int .i64 2, .int .i64 3, .int .i64 4] 3)).alloc (by simp; omega) (.cells #[.slice (some ⟨w.heap.size, 0, none⟩) 2 2, .slice (some ⟨w.heap.size + 1, 0, none⟩) 1 1, .slice (some ⟨w.heap.size + 1 + 1, 0, none⟩) 2 2, .slice (some ⟨w.heap.size + 1 + 1 + 1, 0, none⟩) 3 3] 27))
  refine (Trim_any 4 _ exC _ Hr.out).mono ?_
  rintro e w1 (⟨hz, _⟩ | ⟨_, n, t, vC, vF, hn, _, _, hrun, rfl, hrC, hrF, hb1⟩)
  · exact absurd ex_may hz
  obtain rfl : n = 4 := by omega
  obtain rfl := ex_run hrun
  obtain ⟨AC, cC, rfl, _, hatC⟩ := hrC.open_
  obtain ⟨AF, cF, rfl, _, hatF⟩ := hrF.open_
  obtain ⟨bF, offF, rfl, hbF, hcF⟩ := hatF (by simp)
  obtain ⟨u0, hu0, e0⟩ := hcF 0 (by simp)
  obtain ⟨u1, hu1, e1⟩ := hcF 1 (by simp)
  obtain rfl := e0
  obtain rfl := e1
  simp at hu0 hu1
  have Hb1 := Lib.hid (Hbw.out.trans (hb1.mono Hbw.out.size))
  clear hatC hatF hcF hb1 hrC hrF hrun hn Hr
  unfold cells3
  go_wp2
  go_ret
  exact ⟨rfl, Hb1.out.alloc Hb1.out.size _⟩
end Go.Proofs.Ytdofiipckcfopaa
