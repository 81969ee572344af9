/- The library's strings.Index, IndexByte at this program: the shelf's contracts, laid. -/
import Derived.Test.YtpgdioopkcfjdaaBase
import Derived.Shelf.Strings.Search3
import Derived.Shelf.Small.Strs
namespace Go.Proofs.Ytpgdioopkcfjdaa
open Go.Shelf Go.RowKit
def layIx_ren : Go.Shelf.Ren := ⟨fun | 143 => 48 | 217 => 56 | 219 => 55 | 224 => 61 | 225 => 60 | 266 => 63 | 267 => 62 | 314 => 64 | n => n, fun | 3 => 3 | 4 => 4 | 5 => 5 | 9 => 9 | 46 => 40 | 51 => 105 | 146 => 106 | n => n, fun | 1 => 0 | n => n⟩
set_option maxRecDepth 100000 in
theorem layIx : Go.Proofs.Lays.n143 Try.prog layIx_ren := {
  mixed := by kernel_rfl
  f143 := Try.func48.trans (congrArg some (by kernel_rfl))
  f217 := Try.func56.trans (congrArg some (by kernel_rfl))
  f219 := Try.func55.trans (congrArg some (by kernel_rfl))
  f224 := Try.func61.trans (congrArg some (by kernel_rfl))
  f225 := Try.func60.trans (congrArg some (by kernel_rfl))
  f266 := Try.func63.trans (congrArg some (by kernel_rfl))
  f267 := Try.func62.trans (congrArg some (by kernel_rfl))
  f314 := Try.func64.trans (congrArg some (by kernel_rfl))
  t3 := Try.underlying3
  a3 := Try.isAgg3
  z3 := Try.sizeOf3
  v3 := Try.zeroValue3
  t4 := Try.underlying4
  a4 := Try.isAgg4
  z4 := Try.sizeOf4
  v4 := Try.zeroValue4
  t5 := Try.underlying5
  a5 := Try.isAgg5
  z5 := Try.sizeOf5
  v5 := Try.zeroValue5
  t9 := Try.underlying9
  a9 := Try.isAgg9
  z9 := Try.sizeOf9
  v9 := Try.zeroValue9
  t46 := Try.underlying40
  a46 := Try.isAgg40
  z46 := Try.sizeOf40
  v46 := Try.zeroValue40
  t51 := Try.underlying105
  a51 := Try.isAgg105
  z51 := Try.sizeOf105
  v51 := Try.zeroValue105
  t146 := Try.underlying106
  a146 := Try.isAgg106
  z146 := Try.sizeOf106
  v146 := Try.zeroValue106
  g1 := by kernel_rfl }
def layIb_ren : Go.Shelf.Ren := ⟨fun | 137 => 49 | 217 => 56 | 266 => 63 | n => n, fun | 3 => 3 | 5 => 5 | 9 => 9 | n => n, fun n => n⟩
set_option maxRecDepth 100000 in
theorem layIb : Go.Proofs.Lays.n137 Try.prog layIb_ren := {
  mixed := by kernel_rfl
  f137 := Try.func49.trans (congrArg some (by kernel_rfl))
  f217 := Try.func56.trans (congrArg some (by kernel_rfl))
  f266 := Try.func63.trans (congrArg some (by kernel_rfl))
  t3 := Try.underlying3
  a3 := Try.isAgg3
  z3 := Try.sizeOf3
  v3 := Try.zeroValue3
  t5 := Try.underlying5
  a5 := Try.isAgg5
  z5 := Try.sizeOf5
  v5 := Try.zeroValue5
  t9 := Try.underlying9
  a9 := Try.isAgg9
  z9 := Try.sizeOf9
  v9 := Try.zeroValue9 }
end Go.Proofs.Ytpgdioopkcfjdaa
