/- pomaceref01.begins. -/
import Derived.Test.YtnkbeaipgadphaaChD4
import Derived.Test.YtnkbeaipgadphaaChW12
namespace Go.Proofs.Ytnkbeaipgadphaa
open Go.RowKit
open C01

theorem pre_eq (s p : ByteArray) : pre s p = ((s.extract 0 p.size).toList == p.toList) := by
  have e : (s.extract 0 p.size).data.toList = s.data.toList.take p.data.toList.length := by rw [Array.length_toList]; simp [ByteArray.data_extract]
  unfold pre Lib.hasPrefix
  rw [Bool.eq_iff_iff, List.isPrefixOf_iff_prefix, beq_iff_eq, ByteArray.toList_eq, ByteArray.toList_eq, e, List.prefix_iff_eq_take]
  exact ⟨fun h => h.symm, fun h => h.symm⟩
theorem pre_short (s p : ByteArray) (h : s.size < p.size) : pre s p = false := by
  unfold pre Lib.hasPrefix
  rw [Bool.eq_false_iff]
  intro e
  have := (List.isPrefixOf_iff_prefix.1 e).length_le
  rw [Array.length_toList, Array.length_toList] at this
  have h1 : s.data.size = s.size := rfl
  have h2 : p.data.size = p.size := rfl
  omega
theorem begins_any (s p : ByteArray) (w : World) (hs : s.size ≤ 1000000) (hp : p.size ≤ 1000000) : Calls Try.prog 39 #[.string s, .string p] w fun e w' => e = .returned (.bool (pre s p)) ∧ w = w' := by
  rcases Nat.lt_or_ge s.size p.size with h | h
  · rw [pre_short s p h]
    go_enter Try.func39, Try.ntmps39
    go_wp2
    go_ret
    exact ⟨rfl, rfl⟩
  · have e := (pre_eq s p).symm
    generalize pre s p = b at e ⊢
    go_enter Try.func39, Try.ntmps39
    go_wp2
    go_ret
    exact ⟨rfl, rfl⟩
end Go.Proofs.Ytnkbeaipgadphaa
