/- chars.At. -/
import Derived.Test.YtnkbeaipgadphaaChW8
namespace Go.Proofs.Ytnkbeaipgadphaa
open Go.RowKit
open C01

theorem last_bounds (s : ByteArray) (c : Int) : -1 ≤ Lib.lastIndexByte s c ∧ Lib.lastIndexByte s c < s.size := by
  unfold Lib.lastIndexByte
  rcases Lib.lastIdx_spec s c s.size with ⟨h, _⟩ | ⟨i, hi, h, _⟩
  · rw [h]; omega
  · omega
theorem count_le (s : ByteArray) : Lib.countByte s.data.toList 10 ≤ s.size := by
  have := List.count_le_length (a := (10 : UInt8)) (l := s.data.toList)
  rw [Array.length_toList] at this
  exact this
set_option maxHeartbeats 400000 in
theorem At_any (s : ByteArray) (off : Int) (o : Nat) (w : World) (hs : s.size ≤ 100000) (ho : (o : Int) = max 0 (min off s.size)) : Calls Try.prog 21 #[.string s, .int .i64 off] w fun e w' => e = .returned (.agg #[.int .i64 o, .int .i64 (1 + (Lib.countByte (s.extract 0 o).data.toList 10 : Nat)), .int .i64 ((o : Int) - Lib.lastIndexByte (s.extract 0 o) 10)]) ∧ Below w.heap.size w w' := by
  have hos : o ≤ s.size := by omega
  have HC := Lib.hid (fun w => Count_any (s.extract 0 o) w)
  have HL := Lib.hid (fun w => Last_any (s.extract 0 o) w (by rw [ByteArray.size_extract]; omega))
  obtain ⟨hr0, hr1⟩ := last_bounds (s.extract 0 o) 10
  have hsz : (s.extract 0 o).size = o := by rw [ByteArray.size_extract]; omega
  have hc0 := count_le (s.extract 0 o)
  rw [hsz] at hr1 hc0
  clear hsz
  generalize Lib.lastIndexByte (s.extract 0 o) 10 = r at HL hr0 hr1 ⊢
  generalize Lib.countByte (s.extract 0 o).data.toList 10 = c at HC hc0 ⊢
  have hw1 : IntKind.i64.wrap (1 + (c : Int)) = 1 + (c : Int) := by rw [IntKind.wrap_i64]; omega
  have hw2 : IntKind.i64.wrap ((o : Int) - r) = (o : Int) - r := by rw [IntKind.wrap_i64]; omega
  go_enter Try.func21, Try.ntmps21
  go_wp2_with fail
  rw [← ho]
  simp only [Int.toNat_natCast]
  refine (HC.out _).mono ?_
  rintro e w1 ⟨rfl, rfl⟩
  clear ho HC
  go_wp2_with (go_at_call 44; refine (HL.out _).mono ?_; rintro e w1 ⟨rfl, rfl⟩)
  exact bodyPost_ret (results_cell_row rfl _ _ w.heap.size _ _ (0, 0) _ rfl (heap_alloc_new w _) Try.underlying40 rfl (by kernel_rfl)) rfl ⟨rfl, below_alloc _ _⟩
end Go.Proofs.Ytnkbeaipgadphaa
