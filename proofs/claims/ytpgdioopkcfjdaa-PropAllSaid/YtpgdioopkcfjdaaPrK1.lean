/- PropRefs: the law, walked. -/
import Derived.Test.YtpgdioopkcfjdaaPrX11
import Derived.Test.YtpgdioopkcfjdaaPrA
namespace Go.Proofs.Ytpgdioopkcfjdaa
open Go.RowKit

theorem MaxAt.draw {m : Int} {w : World} (h : MaxAt m w) (n : Nat) : MaxAt m (w.drewN n) := h
set_option maxHeartbeats 2000000 in
theorem walk_PropRefs (m : Int) (W : World) (hm : MaxAt m W) (v0 : Value) (a0 : Arg Try.prog W 9 v0) : Calls Try.prog 8 #[v0] W fun e W' => e = .returned (.bool true) ∧ Below W.heap.size W W' := by
  obtain ⟨s0, rfl⟩ := arg_text a0
  clear a0
  have H0 := Lib.hid (fun w => lawcutL_any s0 w)
  have hs := cut1_len s0
  generalize cut1 s0 = s at H0 hs
  have HM := Lib.hid hm
  have hpos := hm.lt
  have H1 := Lib.hid (Refs_any s m W (by omega) hm)
  have H2 := Lib.hid (fun w => RefRefs_any s w (by omega))
  have hrl := refsP_length s
  generalize refsP s = l at H1 H2 hrl
  clear hm
  obtain ⟨B, hB⟩ : ∃ B, B = W.heap.size := ⟨_, rfl⟩
  have HBe := Lib.hid hB
  rw [← hB] at hpos ⊢
  clear hB
  go_enter Try.func8, Try.ntmps8
  go_wp2_with (first
    | (go_at_call 14; with_reducible refine (H0.out _).mono ?_; rintro e w1 ⟨rfl, rfl⟩)
    | (go_at_call 21; with_reducible refine H1.out.mono ?_; rintro e w2 ⟨u2, rfl, h1, h2⟩; obtain ⟨A, c, rfl, hl1, ha1⟩ := h1.open_; (have R1 := Lib.hid h1; have Hat := Lib.hid ha1; have B2 := Lib.hid (show Below B _ w2 by rw [HBe.out]; exact h2); clear h1 h2 ha1))
    | (go_at_call 18; with_reducible refine (H2.out w2).mono ?_; rintro e w3 ⟨u3, rfl, h1, h2⟩; obtain ⟨A2, c2, rfl, hl2, ha2⟩ := h1.open_; (have Hat2 := Lib.hid ha2; have B23 := Lib.hid h2; have B3 := Lib.hid (B2.out.trans (h2.mono (by have := B2.out.size; have := HBe.out; omega))); clear h1 h2 ha2)))
  have Hat := Lib.hid (Hat.out.agree RTx.stable (ag_of_below B23.out) (fun _ h => h))
  go_loopw [19] (fun kv wr => ∃ k : Nat, k ≤ l.length ∧ kv = .int .i64 k ∧ Hid (∃ n, wr = w3.drewN n)) (fun kv _ => l.length - (intOf kv).toNat)
  case atStart => exact ⟨0, Nat.zero_le _, rfl, Lib.hid ⟨0, rfl⟩⟩
  case round =>
    obtain ⟨k, hkle, rfl, HW⟩ := hrel
    obtain ⟨nd, rfl⟩ := HW.out
    rcases Nat.lt_or_ge k l.length with hk | hk
    · obtain ⟨b, off, rfl, hb, hc⟩ := Hat.out (by omega)
      obtain ⟨u, c0, hu⟩ := hc k hk
      obtain rfl := hu
      obtain ⟨b2, off2, rfl, hb2, hc2⟩ := Hat2.out (by omega)
      obtain ⟨u, d0, hu⟩ := hc2 k hk
      obtain rfl := hu
      clear hc hc2
      have e0 : ((bz l[k]).toList == (bz l[k]).toList) = true := by rw [bz_beq]; simp
      go_wp2
      go_quiet (fail)
      go_wp2
      go_roundw
      case rel => exact ⟨k + 1, by omega, by go_num, Lib.hid ⟨_, rfl⟩⟩
      case measure => simp [intOf]; omega
    · obtain rfl : k = l.length := by omega
      have HL := Lib.hid (lives_any (m := m) (w3.drewN nd) ((HM.out.below B3.out hpos).draw nd))
      go_wp2_with (go_at_call 17; with_reducible refine HL.out.mono ?_; rintro e w5 ⟨rfl, h5⟩; have HB5 := Lib.hid h5; clear h5)
      go_ret
      exact ⟨rfl, (below_drewN B3.out nd).trans (HB5.out.mono (by have := B3.out.size; have := HBe.out; simp [World.drewN]; omega))⟩
end Go.Proofs.Ytpgdioopkcfjdaa
