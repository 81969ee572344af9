/- Whether a node leads to another one; whether two rows are the same, and rows of rows. -/
import Derived.Test.YtjmenkjmghmkpaaGrM
namespace Go.Proofs.Ytjmenkjmghmkpaa
open Go.RowKit
open G22

theorem leads_any {G : Gr} {a b : Nat} (ha : a < G.length) : leads G a b = G[a].any (fun x => x == b) := by
  unfold leads
  rw [row_at ha, Bool.eq_iff_iff, List.any_eq_true, List.contains_iff_mem]
  exact ⟨fun h => ⟨b, h, by simp⟩, fun ⟨x, h, e⟩ => by rw [beq_iff_eq] at e; rw [← e]; exact h⟩
set_option maxHeartbeats 400000 in
theorem Leads_any (s : Value) (G : Gr) (a b : Nat) (w : World) {B : Nat} (hs : RNatss w (Lt B) s G) (ha : a < G.length) :
    Calls Try.prog 27 #[s, .int .i64 a, .int .i64 b] w fun e w' => e = .returned (.bool (leads G a b)) ∧ w = w' := by
  obtain ⟨A, c, rfl, hm, hat⟩ := hs.open_
  obtain ⟨b0, off0, u0, rfl, hb0, hcell0, hu0⟩ := hat.lt_ ha
  obtain ⟨A2, c2, rfl, hm2, hat2⟩ := hu0.open_
  have Hat2 := Lib.hid hat2; clear hat2
  have Hl := Lib.hid (leads_any (b := b) ha)
  go_enter Try.func27, Try.ntmps27
  go_wp2
  go_loop [14] (fun sv => ∃ k : Nat, k ≤ (G[a]).length ∧ sv = .int .i64 k ∧ Hid ((G[a].take k).any (fun x => x == b) = false)) (fun sv => (G[a]).length - (intOf sv).toNat)
  case atStart => exact ⟨0, Nat.zero_le _, rfl, hid_nil_any _ _⟩
  case round =>
    obtain ⟨k, hkle, rfl, hkinv⟩ := hrel
    by_cases hklt : k < (G[a]).length
    · obtain ⟨bk, offk, uk, rfl, hbk, hcellk, huk⟩ := Hat2.out.lt_ hklt
      obtain rfl := huk
      unfold natV at *
      by_cases hx : G[a][k] = b
      · have hbig : G[a].any (fun x => x == b) = true := any_at (h := hklt) (by simpa using hx)
        have Hd := Lib.hid (show true = leads G a b by rw [Hl.out, hbig])
        have hx1 : ((G[a][k] : Int) == (b : Int)) = true := by simp [hx]
        clear hbig hx
        go_wp2
        go_ret
        exact ⟨ret_bool Hd.out, rfl⟩
      · have hx1 : ((G[a][k] : Int) == (b : Int)) = false := by simp; omega
        have Hx := Lib.hid (show (G[a][k] == b) = false by simpa using hx)
        clear hx
        go_wp2
        go_round
        case rel => exact ⟨k + 1, by omega, by go_num, (hid_any_succ hklt hkinv Hx.out)⟩
        case measure => simp [intOf]; omega
    · obtain rfl : k = (G[a]).length := by omega
      go_wp2
      go_ret
      exact ⟨ret_bool (by rw [Hl.out, hid_any_end hkinv]), rfl⟩
set_option maxHeartbeats 1000000 in
theorem same_any (s t : Value) (A B : List Int) (w : World) {S1 S2 : Nat → Prop} (hs : RInts w S1 s A) (ht : RInts w S2 t B) :
    Calls Try.prog 22 #[s, t] w fun e w' => e = .returned (.bool (decide (A = B))) ∧ ∃ n, w' = w.drewN n := by
  obtain ⟨P1, c1, rfl, hm1, hat1⟩ := hs.open_
  obtain ⟨P2, c2, rfl, hm2, hat2⟩ := ht.open_
  have Hat1 := Lib.hid hat1; clear hat1
  have Hat2 := Lib.hid hat2; clear hat2
  by_cases hl : A.length = B.length
  case neg =>
    have Hd := Lib.hid (show false = decide (A = B) by simp; intro h; exact hl (by rw [h]))
    have hne : ((A.length : Int) != B.length) = true := by simp; omega
    clear hl
    go_enter Try.func22, Try.ntmps22
    go_wp2
    go_ret
    exact ⟨ret_bool Hd.out, 0, rfl⟩
  case pos =>
    have hne : ((A.length : Int) != B.length) = false := by simp; omega
    have Hl := Lib.hid hl; clear hl
    go_enter Try.func22, Try.ntmps22
    go_wp2
    go_loopw [13] (fun sv wr => ∃ q : Nat, q ≤ A.length ∧ sv = .int .i64 q ∧ (∃ n, wr = w.drewN n) ∧ Hid (A.take q = B.take q)) (fun sv _ => A.length - (intOf sv).toNat)
    case atStart => exact ⟨0, Nat.zero_le _, rfl, ⟨0, rfl⟩, rfl⟩
    case round =>
      obtain ⟨q, hqle, rfl, ⟨n2, rfl⟩, hinv2⟩ := hrel
      by_cases hqlt : q < A.length
      · have hqb : q < B.length := by have := Hl.out; omega
        obtain ⟨b3, off3, e3, hb3, hc3⟩ := Hat1.out (by omega)
        obtain ⟨b4, off4, e4, hb4, hc4⟩ := Hat2.out (by omega)
        subst e3 e4
        obtain ⟨u3, hcell3, hu3⟩ := hc3 q hqlt
        obtain ⟨u4, hcell4, hu4⟩ := hc4 q hqb
        clear hc3 hc4
        obtain rfl := hu3
        obtain rfl := hu4
        by_cases hv : A[q] = B[q]
        case neg =>
          have hne3 : (A[q] != B[q]) = true := by simp [hv]
          have Hd := Lib.hid (show false = decide (A = B) by simp; exact take_ne hqlt hqb hv)
          clear hv
          go_wp2
          go_quiet (fail)
          go_wp2
          go_ret
          exact ⟨ret_bool Hd.out, _, drewN_two _ _ _⟩
        case pos =>
          have hne3 : (A[q] != B[q]) = false := by simp [hv]
          have Hn := Lib.hid (show Hid (A.take (q + 1) = B.take (q + 1)) from take_eq_succ hqlt hqb hinv2.out hv)
          clear hv
          go_wp2
          go_quiet (fail)
          go_wp2
          go_roundw
          case rel => exact ⟨q + 1, by omega, by go_num, ⟨_, rfl⟩, Hn.out⟩
          case measure => simp [intOf]; omega
      · obtain rfl : q = A.length := by omega
        have Hd := Lib.hid (show true = decide (A = B) by symm; simpa using take_eq_end Hl.out hinv2.out)
        clear hqlt hqle hinv2
        go_wp2
        go_ret
        exact ⟨ret_bool Hd.out, _, rfl⟩
set_option maxHeartbeats 1000000 in
theorem all_any (s t : Value) (A B : List (List Int)) (w : World) {S1 S2 : Nat → Prop} (hs : RIntss w S1 s A) (ht : RIntss w S2 t B) :
    Calls Try.prog 24 #[s, t] w fun e w' => e = .returned (.bool (decide (A = B))) ∧ ∃ n, w' = w.drewN n := by
  obtain ⟨P1, c1, rfl, hm1, hat1⟩ := hs.open_
  obtain ⟨P2, c2, rfl, hm2, hat2⟩ := ht.open_
  have Hat1 := Lib.hid hat1; clear hat1
  have Hat2 := Lib.hid hat2; clear hat2
  by_cases hl : A.length = B.length
  case neg =>
    have Hd := Lib.hid (show false = decide (A = B) by simp; intro h; exact hl (by rw [h]))
    have hne : ((A.length : Int) != B.length) = true := by simp; omega
    clear hl
    go_enter Try.func24, Try.ntmps24
    go_wp2
    go_ret
    exact ⟨ret_bool Hd.out, 0, rfl⟩
  case pos =>
    have hne : ((A.length : Int) != B.length) = false := by simp; omega
    have Hl := Lib.hid hl; clear hl
    go_enter Try.func24, Try.ntmps24
    go_wp2
    go_loopw [13] (fun sv wr => ∃ q : Nat, q ≤ A.length ∧ sv = .int .i64 q ∧ (∃ n, wr = w.drewN n) ∧ Hid (A.take q = B.take q)) (fun sv _ => A.length - (intOf sv).toNat)
    case atStart => exact ⟨0, Nat.zero_le _, rfl, ⟨0, rfl⟩, rfl⟩
    case round =>
      obtain ⟨q, hqle, rfl, ⟨n2, rfl⟩, hinv2⟩ := hrel
      by_cases hqlt : q < A.length
      · have hqb : q < B.length := by have := Hl.out; omega
        obtain ⟨b3, off3, e3, hb3, hc3⟩ := Hat1.out (by omega)
        obtain ⟨b4, off4, e4, hb4, hc4⟩ := Hat2.out (by omega)
        subst e3 e4
        obtain ⟨u3, hcell3, hu3⟩ := hc3 q hqlt
        obtain ⟨u4, hcell4, hu4⟩ := hc4 q hqb
        clear hc3 hc4
        have Hc := Lib.hid (fun n => same_any u3 u4 A[q] B[q] (w.drewN n) hu3 hu4)
        clear hu3 hu4
        by_cases hv : A[q] = B[q]
        case neg =>
          have Hd := Lib.hid (show false = decide (A = B) by simp; exact take_ne hqlt hqb hv)
          rw [decide_eq_false hv] at Hc
          clear hv
          go_wp2
          go_quiet ((go_at_call 22; exact quiet_add (Hc.out _)))
          go_wp2
          go_ret
          exact ⟨ret_bool Hd.out, _, drewN_two _ _ _⟩
        case pos =>
          have Hn := Lib.hid (show Hid (A.take (q + 1) = B.take (q + 1)) from take_eq_succ hqlt hqb hinv2.out hv)
          rw [decide_eq_true hv] at Hc
          clear hv
          go_wp2
          go_quiet ((go_at_call 22; exact quiet_add (Hc.out _)))
          go_wp2
          go_roundw
          case rel => exact ⟨q + 1, by omega, by go_num, ⟨_, rfl⟩, Hn.out⟩
          case measure => simp [intOf]; omega
      · obtain rfl : q = A.length := by omega
        have Hd := Lib.hid (show true = decide (A = B) by symm; simpa using take_eq_end Hl.out hinv2.out)
        clear hqlt hqle hinv2
        go_wp2
        go_ret
        exact ⟨ret_bool Hd.out, _, rfl⟩
end Go.Proofs.Ytjmenkjmghmkpaa
