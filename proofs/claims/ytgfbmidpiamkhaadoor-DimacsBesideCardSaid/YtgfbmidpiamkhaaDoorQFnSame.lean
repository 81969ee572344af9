/- What Same of the reference computes: whether two rows of rows are the same. -/
import Derived.Test.YtgfbmidpiamkhaaDoorZa
namespace Go.Proofs.YtgfbmidpiamkhaaDoor
open Go.RowKit

theorem take_eq_succ {α : Type} {a b : List α} {k : Nat} (h1 : k < a.length) (h2 : k < b.length) (h : a.take k = b.take k) (he : a[k] = b[k]) : a.take (k + 1) = b.take (k + 1) := by
  rw [List.take_succ_eq_append_getElem h1, List.take_succ_eq_append_getElem h2, h, he]
theorem take_ne {α : Type} {a b : List α} {k : Nat} (h1 : k < a.length) (h2 : k < b.length) (he : a[k] ≠ b[k]) : a ≠ b := by
  rintro rfl; exact he rfl
theorem take_eq_end {α : Type} {a b : List α} (hl : a.length = b.length) (h : a.take a.length = b.take a.length) : a = b := by
  rw [List.take_length, hl, List.take_length] at h; exact h
theorem drewN_two (w : World) (a b : Nat) : (w.drewN a).drewN b = w.drewN (a + b) := by simp [World.drewN, Nat.add_assoc]
def SamePost (A B : List (List Int)) (w : World) (e : Ending) (w' : World) : Prop := e = .returned (.bool (decide (A = B))) ∧ ∃ n, w' = w.drewN n
set_option maxRecDepth 100000 in
set_option maxHeartbeats 2000000 in
theorem Same_any (s1 s2 : Value) (A B : List (List Int)) (w : World) {S1 S2 : Nat → Prop} (h1 : RIntss w S1 s1 A) (h2 : RIntss w S2 s2 B) : Calls Tryd.prog 12 #[s1, s2] w (SamePost A B w) := by
  have hm1 := h1.open_
  have hm2 := h2.open_
  obtain ⟨A1, c1, rfl, hm1, hat1⟩ := hm1
  obtain ⟨A2, c2, rfl, hm2, hat2⟩ := hm2
  have Hat1 := Lib.hid hat1; have Hat2 := Lib.hid hat2
  clear h1 h2 hat1 hat2
  by_cases hl : A.length = B.length
  case neg =>
    have hne : ((A.length : Int) != B.length) = true := by simp; omega
    have Hd := Lib.hid (show decide (A = B) = false by simp; rintro rfl; exact hl rfl)
    clear hl
    go_enter Tryd.func12, Tryd.ntmps12
    go_wp2
    go_ret
    exact ⟨ret_bool Hd.out.symm, 0, rfl⟩
  case pos =>
    have hne : ((A.length : Int) != B.length) = false := by simp; omega
    have Hl := Lib.hid hl; clear hl
    go_enter Tryd.func12, Tryd.ntmps12
    go_wp2
    go_loopw [14] (fun sv wr => ∃ k : Nat, k ≤ A.length ∧ sv = .int .i64 k ∧ (∃ n, wr = w.drewN n) ∧ Hid (A.take k = B.take k)) (fun sv _ => A.length - (intOf sv).toNat)
    case atStart => exact ⟨0, Nat.zero_le _, rfl, ⟨0, rfl⟩, rfl⟩
    case round =>
      obtain ⟨k, hkle, rfl, ⟨n, rfl⟩, hinv⟩ := hrel
      by_cases hklt : k < A.length
      · have hkb : k < B.length := by have := Hl.out; omega
        obtain ⟨b1, off1, e1, hb1, hc1⟩ := Hat1.out (by omega)
        obtain ⟨b2, off2, e2, hb2, hc2⟩ := Hat2.out (by omega)
        subst e1 e2
        obtain ⟨u1, hcell1, hu1⟩ := hc1 k hklt
        obtain ⟨u2, hcell2, hu2⟩ := hc2 k hkb
        obtain ⟨A3, c3, rfl, hm3, hat3⟩ := hu1.open_
        obtain ⟨A4, c4, rfl, hm4, hat4⟩ := hu2.open_
        have Hat3 := Lib.hid hat3; have Hat4 := Lib.hid hat4
        clear hc1 hc2 hat3 hat4 hu1 hu2
        by_cases hlk : A[k].length = B[k].length
        case neg =>
          have hne2 : ((A[k].length : Int) != B[k].length) = true := by simp; omega
          have Hd := Lib.hid (show decide (A = B) = false by simp; exact take_ne hklt hkb (fun e => hlk (by rw [e])))
          clear hlk
          go_wp2
          go_quiet (fail)
          go_wp2
          go_ret
          exact ⟨ret_bool Hd.out.symm, _, drewN_two _ _ _⟩
        case pos =>
          have hne2 : ((A[k].length : Int) != B[k].length) = false := by simp; omega
          have Hlk := Lib.hid hlk; clear hlk
          go_wp2
          go_quiet (fail)
          go_wp2
          go_loopw [33] (fun sv wr => ∃ q : Nat, q ≤ A[k].length ∧ sv = .int .i64 q ∧ (∃ n, wr = w.drewN n) ∧ Hid (A[k].take q = B[k].take q)) (fun sv _ => A[k].length - (intOf sv).toNat)
          case atStart => exact ⟨0, Nat.zero_le _, rfl, ⟨_, rfl⟩, rfl⟩
          case round =>
            obtain ⟨q, hqle, rfl, ⟨n2, rfl⟩, hinv2⟩ := hrel
            by_cases hqlt : q < A[k].length
            · have hqb : q < B[k].length := by have := Hlk.out; omega
              obtain ⟨b3, off3, e3, hb3, hc3⟩ := Hat3.out (by omega)
              obtain ⟨b4, off4, e4, hb4, hc4⟩ := Hat4.out (by omega)
              subst e3 e4
              obtain ⟨u3, hcell3, hu3⟩ := hc3 q hqlt
              obtain ⟨u4, hcell4, hu4⟩ := hc4 q hqb
              obtain rfl := hu3
              obtain rfl := hu4
              clear hc3 hc4
              by_cases hv : A[k][q] = B[k][q]
              case neg =>
                have hne3 : (A[k][q] != B[k][q]) = true := by simp [hv]
                have Hd := Lib.hid (show decide (A = B) = false by simp; exact take_ne hklt hkb (take_ne hqlt hqb hv))
                clear hv
                go_wp2
                go_quiet (fail)
                go_wp2
                go_ret
                exact ⟨ret_bool Hd.out.symm, _, drewN_two _ _ _⟩
              case pos =>
                have hne3 : (A[k][q] != B[k][q]) = false := by simp [hv]
                have Hn := Lib.hid (show Hid (A[k].take (q + 1) = B[k].take (q + 1)) from take_eq_succ hqlt hqb hinv2.out hv)
                clear hv
                go_wp2
                go_quiet (fail)
                go_wp2
                go_roundw
                case rel => exact ⟨q + 1, by omega, by go_num, ⟨_, rfl⟩, Hn.out⟩
                case measure => simp [intOf]; omega
            · obtain rfl : q = A[k].length := by omega
              have Hn := Lib.hid (show Hid (A.take (k + 1) = B.take (k + 1)) from take_eq_succ hklt hkb hinv.out (take_eq_end Hlk.out hinv2.out))
              clear hqlt hqle hinv2
              go_wp2
              go_roundw
              case rel => exact ⟨k + 1, by omega, by go_num, ⟨_, rfl⟩, Hn.out⟩
              case measure => simp [intOf]; omega
      · obtain rfl : k = A.length := by omega
        have Hd := Lib.hid (show decide (A = B) = true by simpa using take_eq_end Hl.out hinv.out)
        clear hklt hkle hinv
        go_wp2
        go_ret
        exact ⟨ret_bool Hd.out.symm, _, rfl⟩
end Go.Proofs.YtgfbmidpiamkhaaDoor
