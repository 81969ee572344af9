/- The reference's Ref: a text's first reference. -/
import Derived.Test.YtpgdioopkcfjdaaPrW2
namespace Go.Proofs.Ytpgdioopkcfjdaa
open Go.RowKit

def refV : Option (Bs × Bs × Bs) → Value
  | none => .tuple #[.int .i64 0, sv [], .bool false]
  | some (a, n, _) => .tuple #[.int .i64 (a.length : Int), sv n, .bool true]
set_option maxHeartbeats 1000000 in
theorem Ref_any (s : Bs) (w : World) (hs : s.length ≤ 1000000) : Calls Try.prog 34 #[sv s] w fun e w' => e = .returned (refV (cutP s)) ∧ ∃ n, w' = w.drewN n := by
  have He : (⟨#[]⟩ : ByteArray) = bz [] := rfl
  have hsz := bz_size s
  go_enter Try.func34, Try.ntmps34
  go_wp2
  go_loop [5] (fun sv => ∃ i : Nat, i ≤ s.length ∧ sv = .int .i64 i ∧ Hid (openTo s i)) (fun sv => s.length - (intOf sv).toNat)
  case atStart => exact ⟨0, Nat.zero_le _, rfl, Lib.hid (openTo_zero s)⟩
  case round =>
    obtain ⟨i, hile, rfl, Hi⟩ := hrel
    rcases Nat.lt_or_ge (i + 1) s.length with hlt | hge
    · have b0 := byteL_eq (l := s) (k := i) (by rw [bz_size]; omega)
      have b1 := byteL_eq (l := s) (k := i + 1) (by rw [bz_size]; omega)
      rcases Classical.em (byteL s i = 36) with h1 | h1
      · rcases Classical.em (byteL s (i + 1) = 123) with h2 | h2
        · have Ho := Lib.hid (openTo_hit Hi.out hlt h1 h2)
          rw [h1] at b0
          rw [h2] at b1
          clear h1 h2
          go_wp2
          clear b0 b1 Hi
          go_loop [6] (fun sv => ∃ k : Nat, i + 2 ≤ k ∧ k ≤ s.length ∧ sv = .int .i64 k ∧ Hid (shutTo s (i + 2) k)) (fun sv => s.length - (intOf sv).toNat)
          case atStart => exact ⟨i + 2, by omega, by omega, by go_num, Lib.hid (shutTo_zero s _)⟩
          case round =>
            obtain ⟨k, hik, hkle, rfl, Hk⟩ := hrel
            rcases Nat.lt_or_ge k s.length with hk | hk
            · have b0 := byteL_eq (l := s) (k := k) (by rw [bz_size]; omega)
              rcases Classical.em (byteL s k = 125) with h1 | h1
              · have Hs := Lib.hid (shutTo_hit Hk.out hk h1)
                have Hc := Lib.hid (show cutP s = some (s.take i, (s.drop (i + 2)).take (k - (i + 2)), s.drop (k + 1)) by unfold cutP; rw [Ho.out]; dsimp only; rw [Hs.out])
                rw [h1] at b0
                clear h1
                have x2 := Lib.hid (show (bz s).extract (i + 2) k = bz ((s.drop (i + 2)).take (k - (i + 2))) by rw [bz_ext])
                have c1 : IntKind.i64.wrap ((i : Int) + 2) = ((i + 2 : Nat) : Int) := wrap_nat (by omega) (by omega)
                go_wp2
                go_quiet (fail)
                go_wp2
                refine bodyPost_ret (results_tmp3 rfl _ _ _) rfl ?_
                refine ⟨?_, _, rfl⟩
                rw [Hc.out]
                show Ending.returned (.tuple #[.int .i64 (i : Int), .string ((bz s).extract (i + 2) k), .bool true]) = .returned (.tuple #[.int .i64 ((s.take i).length : Int), sv _, .bool true])
                rw [x2.out, List.length_take, Nat.min_eq_left (by omega)]
              · have Hs := Lib.hid (shutTo_step Hk.out hk h1)
                have n0 : (((byteL s k : Nat) : Int) == 125) = false := beq_eq_false_iff_ne.2 (by omega)
                clear h1
                go_wp2
                go_round
                case rel => exact ⟨k + 1, by omega, by omega, by go_num, Hs⟩
                case measure => simp [intOf]; omega
            · have Hs := Lib.hid (shutTo_end Hk.out hk)
              have Hc := Lib.hid (show cutP s = none by unfold cutP; rw [Ho.out]; dsimp only; rw [Hs.out])
              go_wp2
              refine bodyPost_ret (results_tmp3 rfl _ _ _) rfl ?_
              exact ⟨by rw [Hc.out]; rfl, 0, rfl⟩
        · have Hn := Lib.hid (openTo_step Hi.out (by omega) (fun h => h2 h.2.2))
          have n1 : (((byteL s (i + 1) : Nat) : Int) != 123) = true := bne_iff_ne.2 (by omega)
          rw [h1] at b0
          clear h1 h2
          go_wp2
          go_round
          case rel => exact ⟨i + 1, by omega, by go_num, Hn⟩
          case measure => simp [intOf]; omega
      · have Hn := Lib.hid (openTo_step Hi.out (by omega) (fun h => h1 h.1))
        have n0 : (((byteL s i : Nat) : Int) != 36) = true := bne_iff_ne.2 (by omega)
        clear h1
        go_wp2
        go_round
        case rel => exact ⟨i + 1, by omega, by go_num, Hn⟩
        case measure => simp [intOf]; omega
    · have Ho := Lib.hid (openTo_end Hi.out hge)
      have Hc := Lib.hid (show cutP s = none by unfold cutP; rw [Ho.out])
      go_wp2
      refine bodyPost_ret (results_tmp3 rfl _ _ _) rfl ?_
      exact ⟨by rw [Hc.out]; rfl, 0, rfl⟩
end Go.Proofs.Ytpgdioopkcfjdaa
