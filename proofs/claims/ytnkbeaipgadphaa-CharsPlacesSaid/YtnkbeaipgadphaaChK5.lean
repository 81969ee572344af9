/- CharsPlaces: the law, walked. -/
import Derived.Test.YtnkbeaipgadphaaChW13
import Derived.Test.YtnkbeaipgadphaaArgC2
namespace Go.Proofs.Ytnkbeaipgadphaa
open Go.RowKit
open C01

theorem At_place (s : ByteArray) (off : Int) (w : World) (hs : s.size ≤ 100000) : ∃ o : Nat, max 0 (min off s.size) = (o : Int) ∧ o ≤ s.size ∧ Calls Try.prog 21 #[.string s, .int .i64 off] w fun e w' => e = .returned (.agg #[.int .i64 o, .int .i64 (lnS s o), .int .i64 (clS s o)]) ∧ Below w.heap.size w w' := by
  obtain ⟨o, ho⟩ : ∃ o : Nat, (o : Int) = max 0 (min off s.size) := ⟨(max 0 (min off s.size)).toNat, by omega⟩
  have hos : o ≤ s.size := by omega
  have h := At_any s off o w hs ho
  rw [ln_eq o hos, cl_eq hos] at h
  exact ⟨o, ho.symm, hos, h⟩
set_option maxHeartbeats 1000000 in
theorem walk_CharsPlaces (W : World) (v0 v1 v2 : Value) (a0 : Arg Try.prog W 9 v0) (a1 : Arg Try.prog W 3 v1) (a2 : Arg Try.prog W 3 v2) : Calls Try.prog 9 #[v0, v1, v2] W fun e W' => e = .returned (.bool true) ∧ Below W.heap.size W W' := by
  obtain ⟨s, rfl⟩ := arg_string a0
  obtain ⟨a, rfl, ha⟩ := arg_int a1
  obtain ⟨b, rfl, hb⟩ := arg_int a2
  clear a0 a1 a2
  have H0 := Lib.hid (fun w => cut_any s w)
  have hs := cutS_size s
  generalize cutS s = t at H0 hs
  obtain ⟨o1, hm1, ho1, -⟩ := At_place t a W (by omega)
  obtain ⟨o2, hm2, ho2, -⟩ := At_place t b W (by omega)
  have H1 := Lib.hid (fun w => show Calls Try.prog 21 #[.string t, .int .i64 a] w fun e w' => e = .returned (.agg #[.int .i64 o1, .int .i64 (lnS t o1), .int .i64 (clS t o1)]) ∧ Below w.heap.size w w' from by
    obtain ⟨o, h1, h2, h3⟩ := At_place t a w (by omega)
    rw [show o1 = o by omega]; exact h3)
  have H2 := Lib.hid (fun w => show Calls Try.prog 21 #[.string t, .int .i64 b] w fun e w' => e = .returned (.agg #[.int .i64 o2, .int .i64 (lnS t o2), .int .i64 (clS t o2)]) ∧ Below w.heap.size w w' from by
    obtain ⟨o, h1, h2, h3⟩ := At_place t b w (by omega)
    rw [show o2 = o by omega]; exact h3)
  have HR := Lib.hid (fun w => refAt_any t o1 w (by omega) ho1)
  have HL := Lib.hid (fun w => lives_any w)
  have hup1 := up_all t (j := o1) o2
  have hup2 := up_all t (j := o2) o1
  have heq : o1 = o2 → lnS t o1 = lnS t o2 ∧ clS t o1 = clS t o2 := fun e => by rw [e]; exact ⟨rfl, rfl⟩
  generalize lnS t o1 = l1 at H1 HR hup1 hup2 heq
  generalize clS t o1 = c1 at H1 HR hup1 hup2 heq
  generalize lnS t o2 = l2 at H2 hup1 hup2 heq
  generalize clS t o2 = c2 at H2 hup1 hup2 heq
  clear hm2 ho1 ho2
  rcases (show (o1 < o2 ∧ l1 < l2) ∨ (o1 < o2 ∧ l1 = l2 ∧ c1 < c2) ∨ (o1 = o2 ∧ l1 = l2 ∧ c1 = c2) ∨ (o2 < o1 ∧ l2 < l1) ∨ (o2 < o1 ∧ l1 = l2 ∧ c2 < c1) by omega) with ⟨h1, h2⟩ | ⟨h1, rfl, h3⟩ | ⟨rfl, rfl, rfl⟩ | ⟨h1, h2⟩ | ⟨h1, rfl, h3⟩
  all_goals
    clear hup1 hup2 heq
    try have hx : (l1 == l2) = false := by rw [beq_eq_false_iff_ne]; omega
    go_enter Try.func9, Try.ntmps9
    go_wp2_with (first
      | (go_at_call 16; with_reducible refine (H0.out _).mono ?_; rintro e w1 ⟨rfl, rfl⟩)
      | (go_at_call 21; with_reducible refine (H1.out _).mono ?_; rintro e w1 ⟨rfl, hb⟩; have HB := Lib.hid hb; clear hb)
      | (go_at_call 21; with_reducible refine (H2.out _).mono ?_; rintro e w2 ⟨rfl, hb⟩; have HB2 := Lib.hid hb; clear hb)
      | (go_at_call 22; with_reducible refine (HR.out _).mono ?_; rintro e w3 ⟨rfl, rfl⟩)
      | (go_at_call 15; with_reducible refine (HL.out _).mono ?_; rintro e w4 ⟨rfl, hb⟩; have HB3 := Lib.hid hb; clear hb))
    go_ret
    refine ⟨rfl, ?_⟩
    have h12 := HB.out.trans (HB2.out.mono HB.out.size)
    have hz := h12.size
    have g1 := h12.alloc hz (.cells #[Value.int IntKind.i64 o1, Value.int IntKind.i64 l1, Value.int IntKind.i64 c1] 40)
    first
      | exact (g1.alloc g1.size _).trans (HB3.out.mono (Nat.le_trans g1.size (by simp)))
      | exact (g1.alloc g1.size (.cells #[Value.int IntKind.i64 o2, Value.int IntKind.i64 l2, Value.int IntKind.i64 c2] 40)).trans (HB3.out.mono (Nat.le_trans (g1.alloc g1.size (.cells #[Value.int IntKind.i64 o2, Value.int IntKind.i64 l2, Value.int IntKind.i64 c2] 40)).size (Nat.le_refl _)))
end Go.Proofs.Ytnkbeaipgadphaa
