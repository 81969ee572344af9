/- graph.May, graph.isNode, and their like of the document's answer and of the laws. -/
import Derived.Test.YtjmenkjmghmkpaaGrM
namespace Go.Proofs.Ytjmenkjmghmkpaa
open Go.RowKit
open G22

set_option maxHeartbeats 400000 in
theorem isNode_any (s : Value) (g : List (List Int)) (x : Int) (w : World) {B : Nat} (hs : RIntss w (Lt B) s g) :
    Calls Try.prog 28 #[s, .int .i64 x] w fun e w' => e = .returned (.bool (isNodeB g.length x)) ∧ w = w' := by
  obtain ⟨A, c, rfl, hm, hat⟩ := hs.open_
  clear hat
  by_cases h : 0 ≤ x
  · by_cases h1 : x < (g.length : Int)
    · have Hd := Lib.hid (show true = isNodeB g.length x by simp [isNodeB, h, h1])
      go_enter Try.func28, Try.ntmps28
      go_wp2
      go_ret
      exact ⟨ret_bool Hd.out, rfl⟩
    · have Hd := Lib.hid (show false = isNodeB g.length x by simp [isNodeB, h1])
      go_enter Try.func28, Try.ntmps28
      go_wp2
      go_ret
      exact ⟨ret_bool Hd.out, rfl⟩
  · have Hd := Lib.hid (show false = isNodeB g.length x by simp [isNodeB, h])
    go_enter Try.func28, Try.ntmps28
    go_wp2
    go_ret
    exact ⟨ret_bool Hd.out, rfl⟩
set_option maxHeartbeats 400000 in
theorem May_any (s : Value) (g : List (List Int)) (w : World) {B : Nat} (hs : RIntss w (Lt B) s g) :
    Calls Try.prog 12 #[s] w fun e w' => e = .returned (.bool (mayG g)) ∧ w = w' := by
  have Hs := Lib.hid hs
  obtain ⟨A, c, rfl, hm, hat⟩ := hs.open_
  have Hat := Lib.hid hat; clear hat
  go_enter Try.func12, Try.ntmps12
  go_wp2
  go_loop [9] (fun sv => ∃ k : Nat, k ≤ (g).length ∧ sv = .int .i64 k ∧ Hid ((g.take k).any (fun l => l.any fun x => !isNodeB g.length x) = false)) (fun sv => (g).length - (intOf sv).toNat)
  case atStart => exact ⟨0, Nat.zero_le _, rfl, hid_nil_any _ _⟩
  case round =>
    obtain ⟨k, hkle, rfl, hkinv⟩ := hrel
    by_cases hklt : k < (g).length
    · obtain ⟨bk, offk, uk, rfl, hbk, hcellk, huk⟩ := Hat.out.lt_ hklt
      obtain ⟨A2, c2, rfl, hm2, hat2⟩ := huk.open_
      have Hat2 := Lib.hid hat2; clear hat2
      go_wp2
      go_loop [15] (fun sv => ∃ j : Nat, j ≤ (g[k]).length ∧ sv = .int .i64 j ∧ Hid ((g[k].take j).any (fun x => !isNodeB g.length x) = false)) (fun sv => (g[k]).length - (intOf sv).toNat)
      case atStart => exact ⟨0, Nat.zero_le _, rfl, hid_nil_any _ _⟩
      case round =>
        obtain ⟨j, hjle, rfl, hjinv⟩ := hrel
        by_cases hjlt : j < (g[k]).length
        · obtain ⟨bj, offj, uj, rfl, hbj, hcellj, huj⟩ := Hat2.out.lt_ hjlt
          obtain rfl := huj
          cases hx : isNodeB g.length g[k][j] with
          | true =>
            have Hx := Lib.hid hx; clear hx
            go_wp2_with (go_at_call 28; refine (isNode_any _ _ _ _ Hs.out).mono ?_; rintro e w1 ⟨rfl, rfl⟩; rw [Hx.out])
            go_round
            case rel => exact ⟨j + 1, by omega, by go_num, (hid_any_succ hjlt hjinv (by rw [Hx.out]; rfl))⟩
            case measure => simp [intOf]; omega
          | false =>
            have hbad : g.any (fun l => l.any fun x => !isNodeB g.length x) = true := any_at (h := hklt) (any_at (h := hjlt) (by rw [hx]; rfl))
            have Hd := Lib.hid (show false = mayG g by unfold mayG; rw [hbad]; rfl)
            have Hx := Lib.hid hx; clear hx hbad
            go_wp2_with (go_at_call 28; refine (isNode_any _ _ _ _ Hs.out).mono ?_; rintro e w1 ⟨rfl, rfl⟩; rw [Hx.out])
            go_ret
            exact ⟨ret_bool Hd.out, rfl⟩
        · obtain rfl : j = (g[k]).length := by omega
          go_wp2
          go_round
          case rel => exact ⟨k + 1, by omega, by go_num, (hid_any_succ hklt hkinv (hid_any_end hjinv))⟩
          case measure => simp [intOf]; omega
    · obtain rfl : k = (g).length := by omega
      go_wp2
      go_ret
      exact ⟨ret_bool (by unfold mayG; rw [hid_any_end hkinv]; rfl), rfl⟩
set_option maxHeartbeats 400000 in
theorem refMay_any (s : Value) (g : List (List Int)) (w : World) {B : Nat} (hs : RIntss w (Lt B) s g) :
    Calls Try.prog 13 #[s] w fun e w' => e = .returned (.bool (mayG g)) ∧ w = w' := by
  obtain ⟨A, c, rfl, hm, hat⟩ := hs.open_
  have Hat := Lib.hid hat; clear hat
  go_enter Try.func13, Try.ntmps13
  go_wp2
  go_loop [9] (fun sv => ∃ k : Nat, k ≤ (g).length ∧ sv = .int .i64 k ∧ Hid ((g.take k).any (fun l => l.any fun x => !isNodeB g.length x) = false)) (fun sv => (g).length - (intOf sv).toNat)
  case atStart => exact ⟨0, Nat.zero_le _, rfl, hid_nil_any _ _⟩
  case round =>
    obtain ⟨k, hkle, rfl, hkinv⟩ := hrel
    by_cases hklt : k < (g).length
    · obtain ⟨bk, offk, uk, rfl, hbk, hcellk, huk⟩ := Hat.out.lt_ hklt
      obtain ⟨A2, c2, rfl, hm2, hat2⟩ := huk.open_
      have Hat2 := Lib.hid hat2; clear hat2
      go_wp2
      go_loop [15] (fun sv => ∃ j : Nat, j ≤ (g[k]).length ∧ sv = .int .i64 j ∧ Hid ((g[k].take j).any (fun x => !isNodeB g.length x) = false)) (fun sv => (g[k]).length - (intOf sv).toNat)
      case atStart => exact ⟨0, Nat.zero_le _, rfl, hid_nil_any _ _⟩
      case round =>
        obtain ⟨j, hjle, rfl, hjinv⟩ := hrel
        by_cases hjlt : j < (g[k]).length
        · obtain ⟨bj, offj, uj, rfl, hbj, hcellj, huj⟩ := Hat2.out.lt_ hjlt
          obtain rfl := huj
          cases hx : isNodeB g.length g[k][j] with
          | true =>
            have Hx := Lib.hid hx
            simp [isNodeB] at hx
            obtain ⟨hx0, hx1⟩ := hx
            go_wp2
            go_round
            case rel => exact ⟨j + 1, by omega, by go_num, (hid_any_succ hjlt hjinv (by rw [Hx.out]; rfl))⟩
            case measure => simp [intOf]; omega
          | false =>
            have hbad : g.any (fun l => l.any fun x => !isNodeB g.length x) = true := any_at (h := hklt) (any_at (h := hjlt) (by rw [hx]; rfl))
            have Hd := Lib.hid (show false = mayG g by unfold mayG; rw [hbad]; rfl)
            simp [isNodeB] at hx
            clear hbad
            by_cases hx0 : g[k][j] < 0
            · clear hx
              go_wp2
              go_ret
              exact ⟨ret_bool Hd.out, rfl⟩
            · have hx1 : (g.length : Int) ≤ g[k][j] := hx (by omega)
              clear hx
              go_wp2
              go_ret
              exact ⟨ret_bool Hd.out, rfl⟩
        · obtain rfl : j = (g[k]).length := by omega
          go_wp2
          go_round
          case rel => exact ⟨k + 1, by omega, by go_num, (hid_any_succ hklt hkinv (hid_any_end hjinv))⟩
          case measure => simp [intOf]; omega
    · obtain rfl : k = (g).length := by omega
      go_wp2
      go_ret
      exact ⟨ret_bool (by unfold mayG; rw [hid_any_end hkinv]; rfl), rfl⟩
set_option maxHeartbeats 400000 in
theorem light_any (s : Value) (g : List (List Int)) (w : World) {B : Nat} (hs : RIntss w (Lt B) s g) :
    Calls Try.prog 10 #[s] w fun e w' => e = .returned (.bool (lightG g)) ∧ w = w' := by
  obtain ⟨A, c, rfl, hm, hat⟩ := hs.open_
  have Hat := Lib.hid hat; clear hat
  by_cases h : 30 < g.length
  · have Hd := Lib.hid (show false = lightG g by simp [lightG]; omega)
    go_enter Try.func10, Try.ntmps10
    go_wp2
    go_ret
    exact ⟨ret_bool Hd.out, rfl⟩
  · have Hl := Lib.hid (show lightG g = !g.any (fun l => decide (40 < l.length)) by unfold lightG; rw [decide_eq_true (by omega)]; rfl)
    go_enter Try.func10, Try.ntmps10
    go_wp2
    go_loop [10] (fun sv => ∃ k : Nat, k ≤ (g).length ∧ sv = .int .i64 k ∧ Hid ((g.take k).any (fun l => decide (40 < l.length)) = false)) (fun sv => (g).length - (intOf sv).toNat)
    case atStart => exact ⟨0, Nat.zero_le _, rfl, hid_nil_any _ _⟩
    case round =>
      obtain ⟨k, hkle, rfl, hkinv⟩ := hrel
      by_cases hklt : k < (g).length
      · obtain ⟨bk, offk, uk, rfl, hbk, hcellk, huk⟩ := Hat.out.lt_ hklt
        obtain ⟨A2, c2, rfl, hm2, hat2⟩ := huk.open_
        clear hat2
        by_cases h3 : 40 < g[k].length
        · have hbig : g.any (fun l => decide (40 < l.length)) = true := any_at (h := hklt) (by simpa using h3)
          have Hd := Lib.hid (show false = lightG g by rw [Hl.out, hbig]; rfl)
          clear hbig
          go_wp2
          go_ret
          exact ⟨ret_bool Hd.out, rfl⟩
        · go_wp2
          go_round
          case rel => exact ⟨k + 1, by omega, by go_num, (hid_any_succ hklt hkinv (by simpa using h3))⟩
          case measure => simp [intOf]; omega
      · obtain rfl : k = (g).length := by omega
        go_wp2
        go_ret
        exact ⟨ret_bool (by rw [Hl.out, hid_any_end hkinv]; rfl), rfl⟩
end Go.Proofs.Ytjmenkjmghmkpaa
