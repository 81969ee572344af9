/- The law's cut. -/
import Derived.Test.YtpgdioopkcfjdaaPrD
namespace Go.Proofs.Ytpgdioopkcfjdaa
open Go.RowKit
def cutS (s : ByteArray) : ByteArray := if 1000 < s.size then s.extract 0 1000 else s
theorem lawcut_any (s : ByteArray) (w : World) : Calls Try.prog 14 #[.string s] w fun e w' => e = .returned (.string (cutS s)) ∧ w' = w := by
  unfold cutS
  by_cases h : 1000 < s.size
  · rw [if_pos h]
    go_enter Try.func14, Try.ntmps14
    go_wp2
    go_ret
    exact ⟨rfl, rfl⟩
  · rw [if_neg h]
    have h' : s.size ≤ 1000 := by omega
    go_enter Try.func14, Try.ntmps14
    go_wp2
    go_ret
    exact ⟨rfl, rfl⟩
end Go.Proofs.Ytpgdioopkcfjdaa
