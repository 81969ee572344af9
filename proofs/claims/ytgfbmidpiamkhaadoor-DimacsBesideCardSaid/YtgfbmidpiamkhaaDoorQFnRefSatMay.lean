/- Which questions may be: what the reference computes. -/
import Derived.Test.YtgfbmidpiamkhaaDoorQFnSatMay
namespace Go.Proofs.YtgfbmidpiamkhaaDoor
open Go.RowKit

theorem or_any_succ {α : Type} {b : Bool} {p : α → Bool} {l : List α} {k : Nat} (h : k < l.length) : (b || (l.take (k + 1)).any p) = ((b || (l.take k).any p) || p l[k]) := by
  rw [any_take_succ _ _ _ h, Bool.or_assoc]
theorem refMayN {v : Int} {cls : List (List Int)} (h1 : ¬ (1024 < v ∨ 16384 < cls.length)) (h2 : cls.any (fun c => decide (2048 < c.length)) = false) : satMayN v cls = if (decide (v < 0) || cls.any (fun c => c.any (badLit v))) then 1 else 0 := by
  unfold satMayN
  rw [if_neg h1, h2]
  by_cases h3 : v < 0
  · simp [h3]
  · simp [h3]
set_option maxRecDepth 100000 in
set_option maxHeartbeats 2000000 in
theorem refSatMay_any (v : Int) (s : Value) (cls : List (List Int)) (w : World) (hs : RIntss w (Lt w.heap.size) s cls) :
    Calls Tryd.prog 8 #[.agg #[.int .i64 v, s]] w fun e w' => e = .returned (.int .i64 (satMayN v cls : Nat)) ∧ Below w.heap.size w w' := by
  obtain ⟨A, c, rfl, hm, hat⟩ := hs.open_
  have hb : Below w.heap.size w (w.alloc (.cells #[.int .i64 v, .slice A cls.length c] 24)) := (Below.refl _ _).alloc (Nat.le_refl _) _
  have Hb := Lib.hid hb; clear hb
  have Hat := Lib.hid hat; clear hat
  by_cases h1 : 1024 < v
  · have Hd := Lib.hid (show (2 : Int) = (satMayN v cls : Nat) by simp [satMayN, h1])
    go_enter Tryd.func8, Tryd.ntmps8
    go_wp2
    go_ret
    exact ⟨ret_int Hd.out, Hb.out⟩
  by_cases h2 : 16384 < cls.length
  · have Hd := Lib.hid (show (2 : Int) = (satMayN v cls : Nat) by simp [satMayN, h2])
    go_enter Tryd.func8, Tryd.ntmps8
    go_wp2
    go_ret
    exact ⟨ret_int Hd.out, Hb.out⟩
  have H12 := Lib.hid (show ¬ (1024 < v ∨ 16384 < cls.length) by omega)
  obtain ⟨b0, hb0⟩ : ∃ b0, b0 = decide (v < 0) := ⟨_, rfl⟩
  have Hb0 := Lib.hid hb0
  have hb1 : v < 0 → b0 = true := fun h => by rw [hb0]; simpa using h
  have hbb : decide (v < 0) = b0 := hb0.symm
  have Hb1 := Lib.hid hb1
  clear hb0 hb1
  go_enter Tryd.func8, Tryd.ntmps8
  go_wp2
  go_loop [23, 3] (fun sv bv => ∃ k : Nat, k ≤ cls.length ∧ sv = .int .i64 k ∧ (∃ b, bv = .bool b ∧ Hid (b = (b0 || (cls.take k).any (fun c => c.any (badLit v))))) ∧ Hid ((cls.take k).any (fun c => decide (2048 < c.length)) = false)) (fun sv _ => cls.length - (intOf sv).toNat)
  case atStart => exact ⟨0, Nat.zero_le _, rfl, ⟨_, by first | rfl | (rw [hbb]), by simp [Hid]⟩, hid_nil_any _ _⟩
  case round =>
    obtain ⟨k, hkle, rfl, ⟨b, rfl, hbinv⟩, hkinv⟩ := hrel
    by_cases hklt : k < cls.length
    · obtain ⟨bk, offk, uk, rfl, hbk, hcellk, huk⟩ := Hat.out.lt_ hklt
      obtain ⟨A2, c2, rfl, hm2, hat2⟩ := huk.open_
      have Hat2 := Lib.hid hat2; clear hat2 huk
      by_cases h3 : 2048 < cls[k].length
      · have Hd := Lib.hid (show (2 : Int) = (satMayN v cls : Nat) by
          have hbig : cls.any (fun c => decide (2048 < c.length)) = true := any_at (h := hklt) (by simpa using h3)
          unfold satMayN; rw [if_neg H12.out, hbig]; rfl)
        go_wp2
        go_ret
        exact ⟨ret_int Hd.out, Hb.out⟩
      · have Hs3 := Lib.hid (or_any_succ (b := b0) (p := fun c : List Int => c.any (badLit v)) hklt)
        have Hk2 := Lib.hid (hid_any_succ hklt hkinv (by simpa using h3))
        go_wp2
        go_loop [32, 3] (fun sv bv => ∃ q : Nat, q ≤ cls[k].length ∧ sv = .int .i64 q ∧ ∃ b', bv = .bool b' ∧ Hid (b' = (b || (cls[k].take q).any (badLit v)))) (fun sv _ => cls[k].length - (intOf sv).toNat)
        case atStart => exact ⟨0, Nat.zero_le _, rfl, b, rfl, by simp [Hid]⟩
        case round =>
          obtain ⟨q, hqle, rfl, b', rfl, hqinv⟩ := hrel
          by_cases hqlt : q < cls[k].length
          · obtain ⟨bq, offq, uq, rfl, hbq, hcellq, huq⟩ := Hat2.out.lt_ hqlt
            obtain rfl := huq
            have Hs4 := Lib.hid (or_any_succ (b := b) (p := badLit v) hqlt)
            cases b' with
            | true =>
              go_wp2
              go_round
              case rel => exact ⟨q + 1, by omega, by go_num, _, rfl, by rw [Hid, Hs4.out, ← hqinv.out]; rfl⟩
              case measure => simp [intOf]; omega
            | false =>
              have hv0 : ¬ v < 0 := fun h => by
                have := Hb1.out h
                have h5 := hbinv.out
                have h6 := hqinv.out
                rw [this] at h5
                rw [h5] at h6
                simp at h6
              have hv1 : 0 ≤ v := by omega
              obtain ⟨x, hx⟩ : ∃ x, x = cls[k][q] := ⟨_, rfl⟩
              rw [← hx] at hcellq Hs4
              have Hbl := Lib.hid (show badLit v x = (x == 0 || decide (v < x) || decide (x < -v)) from rfl)
              by_cases hx0 : x = 0
              · have e0 : (x == 0) = true := by simp [hx0]
                have Hn := Lib.hid (show true = badLit v x by rw [Hbl.out, e0]; rfl)
                clear hx hx0 hv0
                go_wp2
                go_round
                case rel => exact ⟨q + 1, by omega, by go_num, true, rfl, by rw [Hid, Hs4.out, ← hqinv.out]; exact Hn.out⟩
                case measure => simp [intOf]; omega
              have e0 : (x == 0) = false := by simp [hx0]
              by_cases hx1 : v < x
              · have Hn := Lib.hid (show true = badLit v x by rw [Hbl.out]; simp [hx1])
                clear hx hx0 hv0
                go_wp2
                go_round
                case rel => exact ⟨q + 1, by omega, by go_num, true, rfl, by rw [Hid, Hs4.out, ← hqinv.out]; exact Hn.out⟩
                case measure => simp [intOf]; omega
              by_cases hx2 : x < -v
              · have Hn := Lib.hid (show true = badLit v x by rw [Hbl.out]; simp [hx2])
                clear hx hx0 hv0
                go_wp2
                go_round
                case rel => exact ⟨q + 1, by omega, by go_num, true, rfl, by rw [Hid, Hs4.out, ← hqinv.out]; exact Hn.out⟩
                case measure => simp [intOf]; omega
              · have Hn := Lib.hid (show false = badLit v x by rw [Hbl.out, e0]; simp; omega)
                clear hx hx0 hv0
                go_wp2
                go_round
                case rel => exact ⟨q + 1, by omega, by go_num, false, rfl, by rw [Hid, Hs4.out, ← hqinv.out]; exact Hn.out⟩
                case measure => simp [intOf]; omega
          · obtain rfl : q = cls[k].length := by omega
            rw [List.take_length] at hqinv
            go_wp2
            go_round
            case rel => exact ⟨k + 1, by omega, by go_num, ⟨_, rfl, by rw [Hid, Hs3.out, ← hbinv.out]; exact hqinv.out⟩, Hk2.out⟩
            case measure => simp [intOf]; omega
    · obtain rfl : k = cls.length := by omega
      have Hr := Lib.hid (refMayN H12.out (hid_any_end hkinv))
      rw [List.take_length] at hbinv
      have Hbr := Lib.hid (show (decide (v < 0) || cls.any (fun c => c.any (badLit v))) = b by rw [hbb]; exact hbinv.out.symm)
      cases b with
      | true =>
        go_wp2
        go_ret
        exact ⟨ret_int (by rw [Hr.out, Hbr.out]; rfl), Hb.out⟩
      | false =>
        go_wp2
        go_ret
        exact ⟨ret_int (by rw [Hr.out, Hbr.out]; rfl), Hb.out⟩
end Go.Proofs.YtgfbmidpiamkhaaDoor
