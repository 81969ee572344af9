/- light, cut of package pomacelaw28. -/
import Derived.Test.YtgfbmidpiamkhaaDoorQDiL
namespace Go.Proofs.YtgfbmidpiamkhaaDoor
open Go.RowKit
open D28

def badN (n : Int) : Bool := n == 0 || decide (999999999 < n) || decide (n < -999999999)
def badRow (c : List Int) : Bool := decide (30 < c.length) || c.any badN
def lightB28 (l : List (List Int)) : Bool := !(decide (60 < l.length) || l.any badRow)
theorem light_yes {l : List (List Int)} (h : lightB28 l = true) : LightL l := by
  simp only [lightB28, Bool.not_eq_true', Bool.or_eq_false_iff, decide_eq_false_iff_not, List.any_eq_false, badRow, badN, Bool.or_eq_true, decide_eq_true_eq, beq_iff_eq, List.any_eq_true, not_or, not_exists, not_and] at h
  refine ⟨by omega, fun c hc => ?_⟩
  obtain ⟨h1, h2⟩ := h.2 c hc
  refine ⟨by omega, fun n hn => ?_⟩
  obtain ⟨⟨h3, h4⟩, h5⟩ := h2 n hn
  exact ⟨⟨by omega, by omega⟩, h3⟩
set_option maxHeartbeats 1000000 in
theorem light_any (s : Value) (l : List (List Int)) (w : World) (hs : RIntss w (Lt w.heap.size) s l) : Calls Tryd.prog 7 #[s] w fun e w' => e = .returned (.bool (lightB28 l)) ∧ w' = w := by
  obtain ⟨A, c, rfl, hm, hat⟩ := hs.open_
  have Hat := Lib.hid hat; clear hat
  by_cases h1 : 60 < l.length
  · have Hd := Lib.hid (show false = lightB28 l by simp [lightB28, h1])
    have h1' : (60 : Int) < (l.length : Int) := by omega
    go_enter Tryd.func7, Tryd.ntmps7
    go_wp2
    go_ret
    exact ⟨ret_bool Hd.out, rfl⟩
  have h1' : ¬ (60 : Int) < (l.length : Int) := by omega
  have Hn := Lib.hid (show lightB28 l = !(l.any badRow) by simp [lightB28, h1])
  go_enter Tryd.func7, Tryd.ntmps7
  go_wp2
  go_loop [12] (fun sv => ∃ i : Nat, i ≤ (l).length ∧ sv = .int .i64 i ∧ Hid ((l.take i).any badRow = false)) (fun sv => (l).length - (intOf sv).toNat)
  case atStart => exact ⟨0, Nat.zero_le _, rfl, hid_nil_any _ _⟩
  case round =>
    obtain ⟨i, hile, rfl, hiinv⟩ := hrel
    by_cases hilt : i < (l).length
    · obtain ⟨bi, offi, ui, rfl, hbi, hcelli, hui⟩ := Hat.out.lt_ hilt
      obtain ⟨A2, c2, rfl, hm2, hat2⟩ := hui.open_
      have Hat2 := Lib.hid hat2; clear hat2
      by_cases h3 : 30 < l[i].length
      · have hbig : l.any badRow = true := any_at (h := hilt) (by simp [badRow, h3])
        have Hd := Lib.hid (show false = lightB28 l by rw [Hn.out, hbig]; rfl)
        have h3' : (30 : Int) < (l[i].length : Int) := by omega
        clear hbig
        go_wp2
        go_ret
        exact ⟨ret_bool Hd.out, rfl⟩
      have h3' : ¬ (30 : Int) < (l[i].length : Int) := by omega
      go_wp2
      go_loop [21] (fun sv => ∃ j : Nat, j ≤ (l[i]).length ∧ sv = .int .i64 j ∧ Hid ((l[i].take j).any badN = false)) (fun sv => (l[i]).length - (intOf sv).toNat)
      case atStart => exact ⟨0, Nat.zero_le _, rfl, hid_nil_any _ _⟩
      case round =>
        obtain ⟨j, hjle, rfl, hjinv⟩ := hrel
        by_cases hjlt : j < (l[i]).length
        · obtain ⟨bj, offj, uj, rfl, hbj, hcellj, huj⟩ := Hat2.out.lt_ hjlt
          obtain rfl := huj
          cases hx : badN l[i][j] with
          | true =>
            have hbad : l.any badRow = true := any_at (h := hilt) (by rw [badRow, any_at (h := hjlt) hx]; simp)
            have Hd := Lib.hid (show false = lightB28 l by rw [Hn.out, hbad]; rfl)
            clear hbad
            simp only [badN, Bool.or_eq_true, beq_iff_eq, decide_eq_true_eq] at hx
            by_cases hx0 : l[i][j] = 0
            · have hx0' : (l[i][j] == 0) = true := by simp [hx0]
              clear hx hx0
              go_wp2
              go_ret
              exact ⟨ret_bool Hd.out, rfl⟩
            have hx0' : (l[i][j] == 0) = false := by simp [hx0]
            by_cases hx1 : 999999999 < l[i][j]
            · clear hx hx0
              go_wp2
              go_ret
              exact ⟨ret_bool Hd.out, rfl⟩
            have hx2 : l[i][j] < -999999999 := by omega
            clear hx hx0
            go_wp2
            go_ret
            exact ⟨ret_bool Hd.out, rfl⟩
          | false =>
            have Hx := Lib.hid hx
            simp only [badN, Bool.or_eq_false_iff, beq_eq_false_iff_ne, decide_eq_false_iff_not] at hx
            have hx0 : (l[i][j] == 0) = false := by simp [hx.1.1]
            have hx1 := hx.1.2
            have hx2 := hx.2
            clear hx
            go_wp2
            go_round
            case rel => exact ⟨j + 1, by omega, by go_num, (hid_any_succ hjlt hjinv Hx.out)⟩
            case measure => simp [intOf]; omega
        · obtain rfl : j = (l[i]).length := by omega
          have Hx := Lib.hid (show badRow l[i] = false by rw [badRow, (hid_any_end hjinv)]; simp; omega)
          go_wp2
          go_round
          case rel => exact ⟨i + 1, by omega, by go_num, (hid_any_succ hilt hiinv Hx.out)⟩
          case measure => simp [intOf]; omega
    · obtain rfl : i = (l).length := by omega
      go_wp2
      go_ret
      exact ⟨ret_bool (by rw [Hn.out, hid_any_end hiinv]; rfl), rfl⟩
theorem cut_any (a : Bs) (w : World) : Calls Tryd.prog 13 #[sv a] w fun e w' => e = .returned (sv (a.take 2000)) ∧ w' = w := by
  have Hx := Lib.hid (show (bz a).extract 0 (min ((bz a).size : Int) 2000).toNat = bz (a.take 2000) by
    rw [bz_ext, bz_size]
    congr 1
    rw [List.drop_zero, Nat.sub_zero, show (min (a.length : Int) 2000).toNat = min 2000 a.length by omega, ← List.take_eq_take_min])
  go_enter Tryd.func13, Tryd.ntmps13
  go_wp2
  go_ret
  exact ⟨congrArg (fun s => Ending.returned (.string s)) Hx.out, rfl⟩
end Go.Proofs.YtgfbmidpiamkhaaDoor
