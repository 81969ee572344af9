/- dimacs: fail, CutPrefix, behind, words. -/
import Derived.Test.YtgfbmidpiamkhaaDoorDiW1
namespace Go.Proofs.YtgfbmidpiamkhaaDoor
open Go.RowKit
open C01 D28

/-- the panic of a fault -/
def flt (c at_ : Int) : List PanicEntry := [{ v := .iface 94 (.agg #[.int .i64 c, .int .i64 at_]), recovered := false }]
theorem fail_any (c n : Int) (w : World) : Calls Tryd.prog 31 #[.int .i64 c, .int .i64 n] w fun e w' => e = .panicked (flt c n) ∧ w = w' := by
  go_enter Tryd.func31, Tryd.ntmps31
  go_wp2
  exact ⟨rfl, rfl, rfl⟩
theorem HasPrefix_any (s p : ByteArray) (w : World) : Calls Tryd.prog 64 #[.string s, .string p] w fun e w' => e = .returned (.bool (Lib.hasPrefix s.data.toList p.data.toList)) ∧ w' = w := Any.stringslite_HasPrefix layHp s p w
def minusB (a : Bs) : Bool := match a with
  | 45 :: _ => true
  | _ => false
def restB (a : Bs) : Bs := match a with
  | 45 :: r => r
  | _ => a
theorem prefix_minus (a : Bs) : Lib.hasPrefix a [45] = minusB a := by
  cases a with
  | nil => rfl
  | cons c r =>
    by_cases h : c = 45
    · subst h; simp [Lib.hasPrefix, minusB]
    · have h2 : ¬ (45 : UInt8) = c := fun e => h e.symm
      simp [Lib.hasPrefix, minusB, h, List.isPrefixOf, h2]
theorem CutPrefix_in (a : Bs) (w : World) : Calls Tryd.prog 58 #[sv a, .string ⟨#[45]⟩] w fun e w' => e = .returned (.tuple #[sv (restB a), .bool (minusB a)]) ∧ w = w' := by
  have H := Lib.hid (fun w => HasPrefix_any (bz a) ⟨#[45]⟩ w)
  have Hm := Lib.hid (show Lib.hasPrefix (bz a).data.toList (⟨#[45]⟩ : ByteArray).data.toList = minusB a from prefix_minus a)
  cases hm : minusB a with
  | false =>
    rw [hm] at Hm
    have Hr := Lib.hid (show restB a = a by cases a with
      | nil => rfl
      | cons c r => by_cases h : c = 45 <;> simp_all [minusB, restB])
    clear hm
    go_enter Tryd.func58, Tryd.ntmps58
    go_wp2_with (go_at_call 64; refine (H.out _).mono ?_; rintro e w1 ⟨rfl, rfl⟩; rw [Hm.out])
    go_ret2
    rw [Hr.out]
    exact ⟨rfl, rfl⟩
  | true =>
    rw [hm] at Hm
    obtain ⟨r, rfl⟩ : ∃ r, a = 45 :: r := by
      cases a with
      | nil => cases hm
      | cons c r => by_cases h : c = 45
                    · subst h; exact ⟨r, rfl⟩
                    · simp [minusB, h] at hm
    clear hm
    have hle : (1 : Int) ≤ (bz (45 :: r)).size := by rw [bz_size]; simp; omega
    have Hx := Lib.hid (show (bz (45 :: r)).extract 1 (bz (45 :: r)).size = bz r by rw [bz_ext]; simp [bz_size])
    go_enter Tryd.func58, Tryd.ntmps58
    go_wp2_with (go_at_call 64; refine (H.out _).mono ?_; rintro e w1 ⟨rfl, rfl⟩; rw [Hm.out])
    go_ret2
    exact ⟨by simp [Hx.out, restB], rfl⟩
theorem CutPrefix_any (a : Bs) (w : World) : Calls Tryd.prog 49 #[sv a, .string ⟨#[45]⟩] w fun e w' => e = .returned (.tuple #[sv (restB a), .bool (minusB a)]) ∧ w = w' := by
  have H := Lib.hid (fun w => CutPrefix_in a w)
  go_enter Tryd.func49, Tryd.ntmps49
  go_wp2_with (go_at_call 58; refine (H.out _).mono ?_; rintro e w1 ⟨rfl, rfl⟩)
  go_ret2
  exact ⟨rfl, rfl⟩
theorem countByte_eq (a : Bs) (c : UInt8) : Lib.countByte a c = a.count c := rfl
theorem behind_any (a : Bs) (w : World) (ha : a.length ≤ 1000000000) : Calls Tryd.prog 32 #[sv a] w fun e w' => e = .returned (.int .i64 (endOf a)) ∧ w = w' := by
  have H := Lib.hid (fun w => Any.strings_Count_one layCt (bz a) 10 w)
  have hc := List.count_le_length (a := (10 : UInt8)) (l := a)
  have Hc := Lib.hid (show Lib.countByte (bz a).data.toList 10 = a.count 10 from countByte_eq a 10)
  obtain ⟨n, hn⟩ : ∃ n, a.count 10 = n := ⟨_, rfl⟩
  have He := Lib.hid (show endOf a = n + 2 by rw [← hn]; rfl)
  rw [hn] at Hc hc
  clear hn
  go_enter Tryd.func32, Tryd.ntmps32
  go_wp2_with (go_at_call 51; refine (H.out _).mono ?_; rintro e w1 ⟨rfl, rfl⟩; rw [Hc.out])
  go_ret
  rw [He.out]
  exact ⟨by simp, rfl⟩
end Go.Proofs.YtgfbmidpiamkhaaDoor
