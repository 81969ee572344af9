/- chars.named; the two closures of package chars. -/
import Derived.Test.YtnkbeaipgadphaaChW3
namespace Go.Proofs.Ytnkbeaipgadphaa
open Go.RowKit
open C01

def lowB (c : Int) : Bool := decide (97 ≤ c) && decide (c ≤ 122)
def digB (base c : Int) : Bool := decide (0 ≤ digI c base)
theorem Ref1_any (c : Int) (w : World) : Calls Try.prog 37 #[.int .u8 c] w fun e w' => e = .returned (.bool (lowB c)) ∧ w = w' := by
  by_cases h1 : 97 ≤ c <;> by_cases h2 : c ≤ 122
  all_goals
    have Hd := Lib.hid (show lowB c = _ from by simp only [lowB, h1, h2, decide_true, decide_false, Bool.and_true, Bool.and_false]; rfl)
    go_enter Try.func37, Try.ntmps37
    go_wp2
    go_ret
    exact ⟨ret_bool (by rw [Hd.out] <;> simp [h2]), rfl⟩
theorem number1_any (c base : Int) (b : Nat) (w : World) (h0 : 0 ≤ c) (h1 : c ≤ 255) (hb : w.cell? ⟨b, 0, none⟩ = some (.int .i64 base)) : Calls Try.prog 47 #[.int .u8 c, .pointer (some ⟨b, 0, none⟩)] w fun e w' => e = .returned (.bool (digB base c)) ∧ w = w' := by
  have H1 := Lib.hid (fun w => digit_any c base w h0 h1)
  have Hd := Lib.hid (show digB base c = decide (0 ≤ digI c base) from rfl)
  go_enter Try.func47, Try.ntmps47
  go_wp2_with (go_at_call 48; refine (H1.out _).mono ?_; rintro e w1 ⟨rfl, rfl⟩)
  go_ret
  exact ⟨ret_bool (by rw [Hd.out]), rfl⟩
theorem str_ne {s : ByteArray} {l : List UInt8} (h : ¬ s = ⟨l.toArray⟩) : (s.toList == l) = false := by
  rw [beq_eq_false_iff_ne]
  intro e
  rw [ByteArray.toList_eq] at e
  exact h (by cases s; subst e; simp)
theorem str_eq {s : ByteArray} {l : List UInt8} (h : s = ⟨l.toArray⟩) : (s.toList == l) = true := by
  rw [ByteArray.toList_eq, h]; simp
def namedS (s : ByteArray) : ByteArray := if s = ⟨#[108, 116]⟩ then ⟨#[60]⟩ else if s = ⟨#[103, 116]⟩ then ⟨#[62]⟩ else if s = ⟨#[97, 109, 112]⟩ then ⟨#[38]⟩ else if s = ⟨#[113, 117, 111, 116]⟩ then ⟨#[34]⟩ else if s = ⟨#[97, 112, 111, 115]⟩ then ⟨#[39]⟩ else ⟨#[]⟩
theorem named_any (s : ByteArray) (w : World) : Calls Try.prog 38 #[.string s] w fun e w' => e = .returned (.string (namedS s)) ∧ w = w' := by
  rcases Classical.em (s = ⟨#[108, 116]⟩) with rfl | h1
  · go_enter Try.func38, Try.ntmps38
    go_wp2
    go_ret
    exact ⟨rfl, rfl⟩
  rcases Classical.em (s = ⟨#[103, 116]⟩) with rfl | h2
  · go_enter Try.func38, Try.ntmps38
    go_wp2
    go_ret
    exact ⟨rfl, rfl⟩
  rcases Classical.em (s = ⟨#[97, 109, 112]⟩) with rfl | h3
  · go_enter Try.func38, Try.ntmps38
    go_wp2
    go_ret
    exact ⟨rfl, rfl⟩
  rcases Classical.em (s = ⟨#[113, 117, 111, 116]⟩) with rfl | h4
  · go_enter Try.func38, Try.ntmps38
    go_wp2
    go_ret
    exact ⟨rfl, rfl⟩
  rcases Classical.em (s = ⟨#[97, 112, 111, 115]⟩) with rfl | h5
  · go_enter Try.func38, Try.ntmps38
    go_wp2
    go_ret
    exact ⟨rfl, rfl⟩
  have Hn := Lib.hid (show namedS s = ⟨#[]⟩ by unfold namedS; rw [if_neg h1, if_neg h2, if_neg h3, if_neg h4, if_neg h5])
  have e1 := str_ne h1
  have e2 := str_ne h2
  have e3 := str_ne h3
  have e4 := str_ne h4
  have e5 := str_ne h5
  go_enter Try.func38, Try.ntmps38
  go_wp2
  go_ret
  exact ⟨by rw [Hn.out]; rfl, rfl⟩
end Go.Proofs.Ytnkbeaipgadphaa
