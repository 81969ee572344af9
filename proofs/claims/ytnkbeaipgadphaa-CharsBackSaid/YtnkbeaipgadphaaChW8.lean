/- strings.Count, LastIndex at a text of one byte; chars.At. -/
import Derived.Test.YtnkbeaipgadphaaChW7
import Derived.Shelf.Strings.LastIndex
import Derived.Shelf.Strings.Count
namespace Go.Proofs.Ytnkbeaipgadphaa
open Go.Shelf Go.RowKit
open C01

def layI_ren : Go.Shelf.Ren := ⟨fun | 222 => 53 | n => n, fun | 3 => 3 | 4 => 4 | 5 => 5 | 9 => 9 | n => n, fun | n => n⟩
theorem layI : Go.Proofs.Lays.n222 Try.prog layI_ren := {
  mixed := by kernel_rfl
  f222 := Try.func53.trans (congrArg some (by kernel_rfl))
  t3 := Try.underlying3
  a3 := Try.isAgg3
  z3 := Try.sizeOf3
  v3 := Try.zeroValue3
  t4 := Try.underlying4
  a4 := Try.isAgg4
  z4 := Try.sizeOf4
  v4 := Try.zeroValue4
  t5 := Try.underlying5
  a5 := Try.isAgg5
  z5 := Try.sizeOf5
  v5 := Try.zeroValue5
  t9 := Try.underlying9
  a9 := Try.isAgg9
  z9 := Try.sizeOf9
  v9 := Try.zeroValue9 }
theorem LastByte_any (s : ByteArray) (c : Int) (w : World) (hs : s.size ≤ 1000000) : Calls Try.prog 53 #[.string s, .int .u8 c] w fun e w' => e = .returned (.int .i64 (Lib.lastIndexByte s c)) ∧ w' = w :=
  Any.bytealg_LastIndexByteString_nm layI s c (by omega) w
theorem Last_any (s : ByteArray) (w : World) (hs : s.size ≤ 1000000) : Calls Try.prog 44 #[.string s, .string ⟨#[10]⟩] w fun e w' => e = .returned (.int .i64 (Lib.lastIndexByte s 10)) ∧ w' = w := by
  have H := Lib.hid (fun w => LastByte_any s 10 w hs)
  generalize Lib.lastIndexByte s 10 = r at H ⊢
  go_enter Try.func44, Try.ntmps44
  go_wp2_with (go_at_call 53; refine (H.out _).mono ?_; rintro e w1 ⟨rfl, rfl⟩)
  go_ret
  exact ⟨rfl, rfl⟩
theorem Count_any (s : ByteArray) (w : World) : Calls Try.prog 43 #[.string s, .string ⟨#[10]⟩] w fun e w' => e = .returned (.int .i64 (Lib.countByte s.data.toList 10 : Nat)) ∧ w' = w := by
  go_enter Try.func43, Try.ntmps43
  go_wp2
  rw [run_callFunc_extern Try.func51 (by kernel_rfl) (by kernel_rfl) (by kernel_rfl) (e := Extern.BytealgCount.count) (by kernel_rfl)]
  rw [show (Extern.BytealgCount.count #[Value.string s, Value.int .u8 ((⟨#[10]⟩ : ByteArray)[0].toNat : Nat)]) = Extern.BytealgCount.count #[.string s, .int .u8 ((10 : UInt8).toNat : Int)] from rfl, Lib.run_countString]
  simp only [Result.andThen]
  rw [Oper.upon_value]
  go_wp2
  go_ret
  exact ⟨rfl, rfl⟩
end Go.Proofs.Ytnkbeaipgadphaa
