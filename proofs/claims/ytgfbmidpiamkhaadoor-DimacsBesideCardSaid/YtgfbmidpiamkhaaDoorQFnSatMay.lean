/- Which questions may be (sat.May). -/
import Derived.Test.YtgfbmidpiamkhaaDoorZa
namespace Go.Proofs.YtgfbmidpiamkhaaDoor
open Go.RowKit

def badLit (v : Int) (x : Int) : Bool := x == 0 || decide (v < x) || decide (x < -v)
def satMayN (v : Int) (cls : List (List Int)) : Nat :=
  if 1024 < v ∨ 16384 < cls.length then 2 else if cls.any (fun c => decide (2048 < c.length)) then 2 else if v < 0 then 1 else if cls.any (fun c => c.any (badLit v)) then 1 else 0

set_option maxHeartbeats 1000000 in
theorem satMay_any (v : Int) (s : Value) (cls : List (List Int)) (w : World) (hs : RIntss w (Lt w.heap.size) s cls) :
    Calls Tryd.prog 33 #[.agg #[.int .i64 v, s]] w fun e w' => e = .returned (.int .i64 (satMayN v cls : Nat)) ∧ Below w.heap.size w w' := by
  obtain ⟨A, c, rfl, hm, hat⟩ := hs.open_
  have hb : Below w.heap.size w (w.alloc (.cells #[.int .i64 v, .slice A cls.length c] 24)) := (Below.refl _ _).alloc (Nat.le_refl _) _
  have Hb := Lib.hid hb; clear hb
  have Hat := Lib.hid hat; clear hat
  by_cases h1 : 1024 < v
  · have Hd := Lib.hid (show (2 : Int) = (satMayN v cls : Nat) by simp [satMayN, h1])
    go_enter Tryd.func33, Tryd.ntmps33
    go_wp2
    go_ret
    exact ⟨ret_int Hd.out, Hb.out⟩
  by_cases h2 : 16384 < cls.length
  · have Hd := Lib.hid (show (2 : Int) = (satMayN v cls : Nat) by simp [satMayN, h1, h2])
    go_enter Tryd.func33, Tryd.ntmps33
    go_wp2
    go_ret
    exact ⟨ret_int Hd.out, Hb.out⟩
  have Hn := Lib.hid (show satMayN v cls = if cls.any (fun c => decide (2048 < c.length)) then 2 else if v < 0 then 1 else if cls.any (fun c => c.any (badLit v)) then 1 else 0 by simp only [satMayN]; rw [if_neg (by omega)])
  go_enter Tryd.func33, Tryd.ntmps33
  go_wp2
  go_loop [21] (fun sv => ∃ k : Nat, k ≤ (cls).length ∧ sv = .int .i64 k ∧ Hid ((cls.take k).any (fun c => decide (2048 < c.length)) = false)) (fun sv => (cls).length - (intOf sv).toNat)
  case atStart => exact ⟨0, Nat.zero_le _, rfl, hid_nil_any _ _⟩
  case round =>
    obtain ⟨k, hkle, rfl, hkinv⟩ := hrel
    by_cases hklt : k < (cls).length
    · obtain ⟨bk, offk, uk, rfl, hbk, hcellk, huk⟩ := Hat.out.lt_ hklt
      obtain ⟨A2, c2, rfl, hm2, hat2⟩ := huk.open_
      clear hat2
      by_cases h3 : 2048 < cls[k].length
      · have hbig : cls.any (fun c => decide (2048 < c.length)) = true := any_at (h := hklt) (by simpa using h3)
        have Hd := Lib.hid (show (2 : Int) = (satMayN v cls : Nat) by rw [Hn.out, hbig]; rfl)
        clear hbig
        go_wp2
        go_ret
        exact ⟨ret_int Hd.out, Hb.out⟩
      · go_wp2
        go_round
        case rel => exact ⟨k + 1, by omega, by go_num, (hid_any_succ hklt hkinv (by simpa using h3))⟩
        case measure => simp [intOf]; omega
    · obtain rfl : k = (cls).length := by omega
      have hnb := hid_any_end hkinv
      clear hkinv
      by_cases h4 : v < 0
      · have Hd := Lib.hid (show (1 : Int) = (satMayN v cls : Nat) by rw [Hn.out, hnb, if_pos h4]; rfl)
        clear hnb
        go_wp2
        go_ret
        exact ⟨ret_int Hd.out, Hb.out⟩
      have Hn2 := Lib.hid (show satMayN v cls = if cls.any (fun c => c.any (badLit v)) then 1 else 0 by rw [Hn.out, hnb, if_neg h4]; rfl)
      clear hnb
      go_wp2
      go_loop [35] (fun sv => ∃ i : Nat, i ≤ (cls).length ∧ sv = .int .i64 i ∧ Hid ((cls.take i).any (fun c => c.any (badLit v)) = false)) (fun sv => (cls).length - (intOf sv).toNat)
      case atStart => exact ⟨0, Nat.zero_le _, rfl, hid_nil_any _ _⟩
      case round =>
        obtain ⟨i, hile, rfl, hiinv⟩ := hrel
        by_cases hilt : i < (cls).length
        · obtain ⟨bi, offi, ui, rfl, hbi, hcelli, hui⟩ := Hat.out.lt_ hilt
          obtain ⟨A2, c2, rfl, hm2, hat2⟩ := hui.open_
          have Hat2 := Lib.hid hat2; clear hat2
          go_wp2
          go_loop [41] (fun sv => ∃ j : Nat, j ≤ (cls[i]).length ∧ sv = .int .i64 j ∧ Hid ((cls[i].take j).any (badLit v) = false)) (fun sv => (cls[i]).length - (intOf sv).toNat)
          case atStart => exact ⟨0, Nat.zero_le _, rfl, hid_nil_any _ _⟩
          case round =>
            obtain ⟨j, hjle, rfl, hjinv⟩ := hrel
            by_cases hjlt : j < (cls[i]).length
            · obtain ⟨bj, offj, uj, rfl, hbj, hcellj, huj⟩ := Hat2.out.lt_ hjlt
              obtain rfl := huj
              cases hx : badLit v cls[i][j] with
              | true =>
                have hbad : cls.any (fun c => c.any (badLit v)) = true := any_at (h := hilt) (any_at (h := hjlt) hx)
                have Hd := Lib.hid (show (1 : Int) = (satMayN v cls : Nat) by rw [Hn2.out, hbad]; rfl)
                clear hbad
                simp only [badLit, Bool.or_eq_true, beq_iff_eq, decide_eq_true_eq] at hx
                by_cases hx0 : cls[i][j] = 0
                · have hx0' : (cls[i][j] == 0) = true := by simp [hx0]
                  clear hx hx0
                  go_wp2
                  go_ret
                  exact ⟨ret_int Hd.out, Hb.out⟩
                have hx0' : (cls[i][j] == 0) = false := by simp [hx0]
                by_cases hx1 : v < cls[i][j]
                · clear hx hx0
                  go_wp2
                  go_ret
                  exact ⟨ret_int Hd.out, Hb.out⟩
                have hx2 : cls[i][j] < -v := by omega
                clear hx hx0
                go_wp2
                go_ret
                exact ⟨ret_int Hd.out, Hb.out⟩
              | false =>
                have Hx := Lib.hid hx
                simp only [badLit, Bool.or_eq_false_iff, beq_eq_false_iff_ne, decide_eq_false_iff_not] at hx
                have hx0 : (cls[i][j] == 0) = false := by simp [hx.1.1]
                have hx1 := hx.1.2
                have hx2 := hx.2
                clear hx
                go_wp2
                go_round
                case rel => exact ⟨j + 1, by omega, by go_num, (hid_any_succ hjlt hjinv Hx.out)⟩
                case measure => simp [intOf]; omega
            · obtain rfl : j = (cls[i]).length := by omega
              go_wp2
              go_round
              case rel => exact ⟨i + 1, by omega, by go_num, (hid_any_succ hilt hiinv (hid_any_end hjinv))⟩
              case measure => simp [intOf]; omega
        · obtain rfl : i = (cls).length := by omega
          go_wp2
          go_ret
          exact ⟨ret_int (by rw [Hn2.out, hid_any_end hiinv]; rfl), Hb.out⟩
end Go.Proofs.YtgfbmidpiamkhaaDoor
