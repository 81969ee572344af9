/- What the small functions of the layer cnf compute: light, isItem, May (program and reference). -/
import Derived.Test.YtlaihjhkghbfkaaCnfD
namespace Go.Proofs.Ytlaihjhkghbfkaa
open Go.RowKit

set_option maxHeartbeats 400000 in
theorem isItem_any (A : Option Addr) (n0 c0 : Nat) (s1 : Value) (r : Int) (n : Int) (w : World) :
    Calls Try.prog 21 #[.agg #[.slice A n0 c0, s1, .int .i64 r], .int .i64 n] w fun e w' => e = .returned (.bool (isItemB n0 n)) ∧ Below w.heap.size w w' := by
  have hb : Below w.heap.size w (w.alloc (.cells #[.slice A n0 c0, s1, .int .i64 r] 25)) := (Below.refl _ _).alloc (Nat.le_refl _) _
  have Hb := Lib.hid hb; clear hb
  by_cases h0 : 0 ≤ n
  · go_enter Try.func21, Try.ntmps21
    go_wp2
    go_ret
    exact ⟨ret_bool (by simp [isItemB]; omega), Hb.out⟩
  · go_enter Try.func21, Try.ntmps21
    go_wp2
    go_ret
    exact ⟨ret_bool (by simp [isItemB]; omega), Hb.out⟩

set_option maxHeartbeats 400000 in
theorem light_any (A : Option Addr) (n0 c0 : Nat) (s1 : Value) (r : Int) (wss : List (List (List Int))) (w : World) (hw : RIntsss w (Lt w.heap.size) s1 wss) :
    Calls Try.prog 9 #[.agg #[.slice A n0 c0, s1, .int .i64 r]] w fun e w' => e = .returned (.bool (lightB n0 wss)) ∧ Below w.heap.size w w' := by
  obtain ⟨A1, c1, rfl, hm, hat⟩ := hw.open_
  have hb : Below w.heap.size w (w.alloc (.cells #[.slice A n0 c0, .slice A1 wss.length c1, .int .i64 r] 25)) := (Below.refl _ _).alloc (Nat.le_refl _) _
  have Hb := Lib.hid hb; clear hb
  have Hat := Lib.hid hat; clear hat
  by_cases h0 : 40 < n0 ∨ 40 < wss.length
  · have hd : lightB n0 wss = false := by simp [lightB]; omega
    have Hd := Lib.hid hd; clear hd
    by_cases h1 : 40 < n0
    · go_enter Try.func9, Try.ntmps9
      go_wp2
      go_ret
      exact ⟨ret_bool Hd.out.symm, Hb.out⟩
    · have h2 : 40 < wss.length := by omega
      clear h0
      go_enter Try.func9, Try.ntmps9
      go_wp2
      go_ret
      exact ⟨ret_bool Hd.out.symm, Hb.out⟩
  · have h1 : ¬ 40 < n0 := by omega
    have h2 : ¬ 40 < wss.length := by omega
    clear h0
    go_enter Try.func9, Try.ntmps9
    go_wp2
    go_loop [20] (fun i => ∃ k : Nat, k ≤ wss.length ∧ i = .int .i64 k ∧ Hid ((wss.take k).all lightR = true)) (fun i => wss.length - (intOf i).toNat)
    case atStart => exact ⟨0, Nat.zero_le _, rfl, by simp [Hid]⟩
    case round =>
      obtain ⟨k, hk, rfl, hl⟩ := hrel
      by_cases hlt : k < wss.length
      · obtain ⟨b, off, u, rfl, hb, hcell, hu⟩ := Hat.out.lt_ hlt
        obtain ⟨A2, c2, rfl, hm2, hat2⟩ := hu.open_
        have Hat2 := Lib.hid hat2; clear hat2
        by_cases h3 : 10 < (wss[k]).length
        · go_wp2
          go_ret
          exact ⟨ret_bool (by simp only [lightB]; rw [all_at (k := k) (h := hlt)]; · simp
                              · simp [lightR]; omega), Hb.out⟩
        · go_wp2
          go_loop [29] (fun i => ∃ j : Nat, j ≤ (wss[k]).length ∧ i = .int .i64 j ∧ Hid (((wss[k]).take j).all (fun w => decide (w.length ≤ 40)) = true)) (fun i => (wss[k]).length - (intOf i).toNat)
          case atStart => exact ⟨0, Nat.zero_le _, rfl, by simp [Hid]⟩
          case round =>
            obtain ⟨j, hj, rfl, hl2⟩ := hrel
            by_cases hlt2 : j < (wss[k]).length
            · obtain ⟨b2, off2, u2, rfl, hb2, hcell2, hu2⟩ := Hat2.out.lt_ hlt2
              obtain ⟨A3, c3, rfl, hm3, hat3⟩ := hu2.open_
              clear hat3
              by_cases h4 : 40 < (wss[k][j]).length
              · go_wp2
                go_ret
                exact ⟨ret_bool (by simp only [lightB]; rw [all_at (k := k) (h := hlt)]; · simp
                                    · simp only [lightR]; rw [all_at (k := j) (h := hlt2)]; · simp
                                      · simp; omega), Hb.out⟩
              · go_wp2
                go_round
                case rel => exact ⟨j + 1, by omega, by go_num, by rw [Hid, all_take_succ _ _ _ hlt2, hl2.out]; simp; omega⟩
                case measure => simp [intOf]; omega
            · obtain rfl : j = (wss[k]).length := by omega
              go_wp2
              go_round
              case rel => exact ⟨k + 1, by omega, by go_num, by rw [Hid, all_take_succ _ _ _ hlt, hl.out]; simp only [lightR]; rw [List.take_length] at hl2; rw [hl2.out]; simp; omega⟩
              case measure => simp [intOf]; omega
      · obtain rfl : k = wss.length := by omega
        go_wp2
        go_ret
        exact ⟨ret_bool (by rw [List.take_length] at hl; simp only [lightB]; rw [hl.out]; simp; omega), Hb.out⟩
end Go.Proofs.Ytlaihjhkghbfkaa
