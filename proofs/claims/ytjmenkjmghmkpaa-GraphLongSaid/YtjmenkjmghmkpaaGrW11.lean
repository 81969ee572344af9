/- Cycle of the document's answer. -/
import Derived.Test.YtjmenkjmghmkpaaGrW8
import Derived.Test.YtjmenkjmghmkpaaGrW10
namespace Go.Proofs.Ytjmenkjmghmkpaa
open Go.RowKit
open G22

set_option maxRecDepth 100000 in
set_option maxHeartbeats 2000000 in
theorem refCycle_any (s : Value) (G : Gr) (w : World) (hs : RNatss w (Lt w.heap.size) s G) (hG : okG G) (hn : G.length ≤ 100000) :
    Calls Try.prog 26 #[s] w (CyclePost G w) := by
  have Hs := Lib.hid hs
  have HG := Lib.hid hG
  obtain ⟨A, c, rfl, hm, hat⟩ := hs.open_
  clear hs hG hat
  go_enter Try.func26, Try.ntmps26
  go_wp2
  go_loopw [9] (fun sv wr => ∃ n : Nat, n ≤ G.length ∧ sv = .int .i64 n ∧ Hid (∀ m, m < n → bestOf G m < 0) ∧ Hid (Below w.heap.size w wr)) (fun sv _ => G.length - (intOf sv).toNat)
  case atStart => exact ⟨0, Nat.zero_le _, rfl, fun m hm => absurd hm (Nat.not_lt_zero _), Below.refl _ _⟩
  case round =>
    obtain ⟨w2, rfl⟩ : ∃ w0 : World, w0 = wr := ⟨_, rfl⟩
    obtain ⟨n, hnle, rfl, Hb, HB2⟩ := hrel
    by_cases hnlt : n < G.length
    · have Hd := Lib.hid (refDepth_any (.slice A G.length c) G n w2 (RNatss.stable.up Hs.out HB2.out) HG.out hnlt (by omega))
      go_wp2_with (go_at_call 21; refine Hd.out.mono ?_; rintro e w3 ⟨d, v, hdep, rfl, hV, hB3⟩)
      have Hdep := Lib.hid hdep
      have hdl : d.length = G.length := hdep.1
      have Hdl := Lib.hid hdl
      have Hbe := Lib.hid (show bestOf G n = bestTo G d n G.length by rw [depthOf_eq hdep]; rfl)
      obtain ⟨Ad, cd, rfl, hmd, hatd⟩ := hV.open_
      obtain ⟨bd, od, ed, _, _⟩ := hatd (by omega)
      subst ed
      have Hatd := Lib.hid hatd
      have HB3 := Lib.hid (HB2.out.trans (hB3.mono HB2.out.size))
      rw [hdl] at *
      clear hdep hV hB3 Hd hdl hatd
      go_wp2
      go_loopw [17, 5] (fun sv bv wr => ∃ k : Nat, k ≤ G.length ∧ sv = .int .i64 k ∧ bv = .int .i64 (bestTo G d n k) ∧ ∃ m, wr = w3.drewN m) (fun sv _ _ => G.length - (intOf sv).toNat)
      case atStart => exact ⟨0, Nat.zero_le _, rfl, rfl, 0, rfl⟩
      case round =>
        obtain ⟨k, hkle, rfl, rfl, m, rfl⟩ := hrel
        obtain ⟨hb1, hb2⟩ := bestTo_ge G d n k
        by_cases hklt : k < G.length
        · have hkd : k < d.length := by rw [Hdep.out.1]; exact hklt
          have hck := RInts.at_nat Hatd.out (Ag.refl _ w3) hkd
          have hdk : dd d k = d[k] := by simp [dd, List.getD, hkd]
          have Hs2 := Lib.hid (show bestTo G d n (k + 1) = if leads G k n = true then stepB d (bestTo G d n k) k else bestTo G d n k from rfl)
          obtain ⟨x, hxx⟩ : ∃ x, x = d[k] := ⟨_, rfl⟩
          rw [← hxx] at hck hdk
          clear hxx hkd
          unfold stepB at Hs2
          rw [hdk] at Hs2
          clear hdk
          have Hl := Lib.hid (fun m => Leads_any (.slice A G.length c) G k n (w3.drewN m) (RNatss.stable.up Hs.out (below_drewN HB3.out m)) hklt)
          generalize bestTo G d n k = b at *
          by_cases hx : 0 ≤ x
          case neg =>
            have Hs3 := Lib.hid (show bestTo G d n (k + 1) = b by
              rw [Hs2.out]
              split
              · rw [if_neg (fun h => hx h.1)]
              · rfl)
            have hbd : decide (0 ≤ x) = false := by simpa using hx
            go_wp2
            go_quiet (fail)
            go_wp2
            go_roundw
            case rel => exact ⟨k + 1, by omega, by go_num, by rw [Hs3.out], _, rfl⟩
            case measure => simp [intOf]; omega
          case pos =>
            have hbd : decide (0 ≤ x) = true := by simpa using hx
            cases hld : leads G k n with
            | false =>
              have Hs3 := Lib.hid (show bestTo G d n (k + 1) = b by rw [Hs2.out, hld]; rfl)
              rw [hld] at Hl
              clear hld
              go_wp2
              go_quiet ((go_at_call 27; exact quiet_add_left (Hl.out _)))
              go_wp2
              go_roundw
              case rel => exact ⟨k + 1, by omega, by go_num, by rw [Hs3.out], _, rfl⟩
              case measure => simp [intOf]; omega
            | true =>
              rw [hld, if_pos rfl] at Hs2
              rw [hld] at Hl
              clear hld
              by_cases hb : b < 0
              case pos =>
                rw [if_pos ⟨hx, .inl hb⟩] at Hs2
                have hbd2 : decide (b < 0) = true := by simpa using hb
                go_wp2
                go_quiet ((go_at_call 27; exact quiet_add_left (Hl.out _)))
                go_wp2
                go_roundw
                case rel => exact ⟨k + 1, by omega, by go_num, by rw [Hs2.out], _, rfl⟩
                case measure => simp [intOf]; omega
              case neg =>
                have hbd2 : decide (b < 0) = false := by simpa using hb
                obtain ⟨bn, rfl⟩ := Int.eq_ofNat_of_zero_le (show 0 ≤ b by omega)
                have hbn : bn < d.length := by rw [Hdep.out.1]; omega
                have hcb := RInts.at_nat Hatd.out (Ag.refl _ w3) hbn
                have hdb : dd d bn = d[bn] := by simp [dd, List.getD, hbn]
                obtain ⟨y, hyy⟩ : ∃ y, y = d[bn] := ⟨_, rfl⟩
                rw [← hyy] at hcb hdb
                rw [Int.toNat_natCast, hdb] at Hs2
                clear hyy hdb hbn
                by_cases hxy : x < y
                · rw [if_pos ⟨hx, .inr hxy⟩] at Hs2
                  have hbd3 : decide (x < y) = true := by simpa using hxy
                  go_wp2
                  go_quiet ((go_at_call 27; exact quiet_add_left (Hl.out _)))
                  go_wp2
                  go_roundw
                  case rel => exact ⟨k + 1, by omega, by go_num, by rw [Hs2.out], _, rfl⟩
                  case measure => simp [intOf]; omega
                · rw [if_neg (fun h => by rcases h.2 with h | h <;> omega)] at Hs2
                  have hbd3 : decide (x < y) = false := by simpa using hxy
                  go_wp2
                  go_quiet ((go_at_call 27; exact quiet_add_left (Hl.out _)))
                  go_wp2
                  go_roundw
                  case rel => exact ⟨k + 1, by omega, by go_num, by rw [Hs2.out], _, rfl⟩
                  case measure => simp [intOf]; omega
        · obtain rfl : k = G.length := by omega
          have Hbe2 := Lib.hid (Hbe.out.symm)
          generalize bestTo G d n G.length = b at *
          by_cases hb : 0 ≤ b
          · obtain ⟨bn, rfl⟩ := Int.eq_ofNat_of_zero_le hb
            have Hp := Lib.hid (fun m => refPath_any (.slice A G.length c) G n bn (w3.drewN m) (RNatss.stable.up Hs.out (below_drewN HB3.out m)) HG.out hnlt (by omega) hn)
            go_wp2_with (go_at_call 23; refine (Hp.out m).mono ?_; rintro e w5 ⟨d5, v5, hdep5, rfl, hr5, hB5⟩)
            go_ret
            refine ⟨v5, rfl, ?_, ?_⟩
            · rw [cycG_hit hnlt (by rw [← Hbe2.out]; exact hb) Hb.out, ← Hbe2.out, Int.toNat_natCast, ← depthOf_eq hdep5]
              exact hr5
            · exact (below_drewN HB3.out m).trans (hB5.mono HB3.out.size)
          · have Hb2 := Lib.hid (show ∀ m, m < n + 1 → bestOf G m < 0 by
              intro m hm
              rcases Nat.lt_or_ge m n with h1 | h1
              · exact Hb.out m h1
              · obtain rfl : m = n := by omega
                rw [← Hbe2.out]; omega)
            go_wp2
            go_roundw
            case rel => exact ⟨n + 1, by omega, by go_num, Hb2.out, below_drewN HB3.out m⟩
            case measure => simp [intOf]; omega
    · obtain rfl : n = G.length := by omega
      have Hnil := Lib.hid (cycG_none Hb.out)
      go_wp2
      go_ret
      exact ⟨_, rfl, by rw [Hnil.out]; exact RSl.nil_ _ _ _, HB2.out⟩
end Go.Proofs.Ytjmenkjmghmkpaa
