/- cut() of package pomacelaw01. -/
import Derived.Test.YtnkbeaipgadphaaChL
namespace Go.Proofs.Ytnkbeaipgadphaa
open Go.RowKit
open C01

def cutS (s : ByteArray) : ByteArray := if 3000 < s.size then s.extract 0 3000 else s
theorem cutS_size (s : ByteArray) : (cutS s).size ≤ 3000 := by
  unfold cutS
  split
  · rw [ByteArray.size_extract]; omega
  · omega
theorem cut_any (s : ByteArray) (w : World) : Calls Try.prog 16 #[.string s] w fun e w' => e = .returned (.string (cutS s)) ∧ w = w' := by
  rcases Nat.lt_or_ge 3000 s.size with h | h
  · have Hc := Lib.hid (show cutS s = s.extract 0 3000 from if_pos h)
    generalize cutS s = c at Hc ⊢
    go_enter Try.func16, Try.ntmps16
    go_wp2
    go_ret
    exact ⟨by rw [Hc.out]; rfl, rfl⟩
  · have Hc := Lib.hid (show cutS s = s from if_neg (by omega))
    generalize cutS s = c at Hc ⊢
    go_enter Try.func16, Try.ntmps16
    go_wp2
    go_ret
    exact ⟨by rw [Hc.out]; rfl, rfl⟩
end Go.Proofs.Ytnkbeaipgadphaa
