/- GraphCycles: the law, walked. -/
import Derived.Test.YtjmenkjmghmkpaaGrO2
import Derived.Test.YtjmenkjmghmkpaaGrK0
import Derived.Deep.DeepCutAuto
namespace Go.Proofs.Ytjmenkjmghmkpaa
open Go.RowKit
open G22

set_option maxRecDepth 100000 in
set_option maxHeartbeats 2000000 in
theorem walk_GraphCycles (W : World) (v0 : Value) (a0 : Arg Try.prog W 22 v0) : Calls Try.prog 7 #[v0] W fun e W' => e = .returned (.bool true) ∧ Below W.heap.size W W' := by
  obtain ⟨g, hg⟩ := arg_graph a0
  obtain ⟨A, c, rfl, hm, _⟩ := hg.open_
  have Hg := Lib.hid hg
  have Hli := Lib.hid (light_any _ g W hg)
  have Hma := Lib.hid (refMay_any _ g W hg)
  have Hlv := Lib.hid (lives_in W W (Below.refl _ _))
  clear hg
  cases hl : lightG g with
  | false =>
    rw [hl] at Hli
    clear hl
    go_enter Try.func7, Try.ntmps7
    go_wp2_with (first
      | (go_at_call 10; with_reducible refine Hli.out.mono ?_; rintro e w1 ⟨rfl, rfl⟩)
      | (go_at_call 13; with_reducible refine Hma.out.mono ?_; rintro e w1 ⟨rfl, rfl⟩)
      | (go_at_call 11; with_reducible refine Hlv.out.mono ?_; rintro e w2 ⟨rfl, hb⟩; have HB := Lib.hid hb; clear hb))
    go_ret
    exact ⟨rfl, HB.out⟩
  | true =>
    rw [hl] at Hli
    cases hmy : mayG g with
    | false =>
      rw [hmy] at Hma
      clear hl hmy
      go_enter Try.func7, Try.ntmps7
      go_wp2_with (first
        | (go_at_call 10; with_reducible refine Hli.out.mono ?_; rintro e w1 ⟨rfl, rfl⟩)
        | (go_at_call 13; with_reducible refine Hma.out.mono ?_; rintro e w1 ⟨rfl, rfl⟩)
        | (go_at_call 11; with_reducible refine Hlv.out.mono ?_; rintro e w2 ⟨rfl, hb⟩; have HB := Lib.hid hb; clear hb))
      go_ret
      exact ⟨rfl, HB.out⟩
    | true =>
      obtain ⟨G, rfl, hS⟩ := small_of hl hmy
      have HS := Lib.hid hS
      have Hs := Lib.hid (natss_of_intss Hg.out)
      rw [hmy] at Hma
      rw [List.length_map] at *
      clear hl hmy hS
      have Hsp := Lib.hid (cyc_spec HS.out.ok)
      have hGl : G.length ≤ 30 := HS.out.len
      clear Hlv
      go_enter Try.func7, Try.ntmps7
      go_wp2_with (first
        | (go_at_call 10; with_reducible refine Hli.out.mono ?_; rintro e w1 ⟨rfl, rfl⟩)
        | (go_at_call 13; with_reducible refine Hma.out.mono ?_; rintro e w1 ⟨rfl, rfl⟩)
        | (go_at_call 20
           refine (Cycle_any _ G W Hs.out HS.out.ok (Nat.le_trans HS.out.len (by omega)) HS.out.rows').mono ?_
           rintro e w2 ⟨v2, rfl, hv2, hb2⟩
           obtain ⟨A2, c2, rfl, hcap, hcmx, hat2⟩ := hv2
           have hc63 : c2 ≤ 9223372036854775807 := (by unfold maxLen at hcmx; omega)
           have hm2 : (cycG G).length ≤ 9223372036854775807 := (by omega)
           have Hat2 := Lib.hid hat2
           have HB2 := Lib.hid hb2
           have Hs2 := Lib.hid (RNatss.stable.up Hs.out hb2)
           clear hat2 hb2 hcmx))
      obtain ⟨C, hC⟩ : ∃ C, C = cycG G := ⟨_, rfl⟩
      rw [← hC] at Hsp Hat2 hm2 hcap ⊢
      have HCC := Lib.hid hC
      clear hC
      go_loop [25] (fun sv => ∃ i : Nat, i ≤ C.length ∧ sv = .int .i64 i) (fun sv => C.length - (intOf sv).toNat)
      case atStart => exact ⟨0, Nat.zero_le _, rfl⟩
      case round =>
        obtain ⟨i, hile, rfl⟩ := hrel
        by_cases hilt : i < C.length
        · obtain ⟨p1, p2, p3⟩ := Hsp.out.1 i hilt
          obtain ⟨b2, o2, u2, rfl, hb2, hci, hu2⟩ := Hat2.out.at_ RNat.stable (Ag.refl _ _) hilt
          obtain rfl := hu2
          have hmlt : (i + 1) % C.length < C.length := Nat.mod_lt _ (by omega)
          obtain ⟨_, _, u3, e3, _, hcm, hu3⟩ := Hat2.out.at_ RNat.stable (Ag.refl _ _) hmlt
          cases e3
          obtain rfl := hu3
          have ex : C[i] = C.getD i 0 := by unfold List.getD; rw [List.getElem?_eq_getElem hilt]; rfl
          have ey : C[(i + 1) % C.length] = C.getD ((i + 1) % C.length) 0 := by unfold List.getD; rw [List.getElem?_eq_getElem hmlt]; rfl
          unfold natV at hci hcm
          rw [ex] at hci
          rw [ey] at hcm
          have Hp3 := Lib.hid p3
          obtain ⟨x, hx⟩ : ∃ x, x = C.getD i 0 := ⟨_, rfl⟩
          obtain ⟨y, hy⟩ : ∃ y, y = C.getD ((i + 1) % C.length) 0 := ⟨_, rfl⟩
          obtain ⟨q, hq⟩ : ∃ q, q = (i + 1) % C.length := ⟨_, rfl⟩
          rw [← hx] at hci p1 p2 Hp3
          rw [← hy] at hcm p2
          rw [← hq] at hcm hmlt
          have Hl := Lib.hid (Leads_any _ G x y w2 Hs2.out p1)
          rw [p2] at Hl
          have hrem : ((i : Int) + 1).tmod (C.length : Int) = (q : Int) := by
            rw [hq, show ((i : Int) + 1) = ((i + 1 : Nat) : Int) by omega]
            rfl
          have hx0 : decide ((x : Int) < 0) = false := by simp
          have hz1 : ¬ C.length = 0 := by omega
          have hz2 : ((C.length : Int) == 0) = false := by rw [beq_eq_false_iff_ne]; omega
          clear ex ey p3 p2 hx hy hq
          go_wp2_with (go_at_call 27; with_reducible refine Hl.out.mono ?_; rintro e w1 ⟨rfl, rfl⟩)
          go_loop [56] (fun sv => ∃ j : Nat, j ≤ i ∧ sv = .int .i64 j) (fun sv => i - (intOf sv).toNat)
          case atStart => exact ⟨0, Nat.zero_le _, rfl⟩
          case round =>
            obtain ⟨j, hjle, rfl⟩ := hrel
            by_cases hjlt : j < i
            · obtain ⟨u4, hcj, hu4⟩ := Hat2.out.again (k := j) (by omega)
              obtain rfl := hu4
              have hjC : j < C.length := by omega
              have ez : C[j] = C.getD j 0 := by unfold List.getD; rw [List.getElem?_eq_getElem hjC]; rfl
              unfold natV at hcj
              rw [ez] at hcj
              have hne := Hp3.out j hjlt
              obtain ⟨z, hz⟩ : ∃ z, z = C.getD j 0 := ⟨_, rfl⟩
              rw [← hz] at hcj hne
              have hd : ((z : Int) == (x : Int)) = false := by rw [beq_eq_false_iff_ne]; omega
              clear ez hz
              go_wp2
              go_round
              case rel => exact ⟨j + 1, by omega, by go_num⟩
              case measure => simp [intOf]; omega
            · obtain rfl : j = i := by omega
              clear hci hcm Hl hrem
              go_wp2
              go_round
              case rel => exact ⟨j + 1, by omega, by go_num⟩
              case measure => simp [intOf]; omega
        · obtain rfl : i = C.length := by omega
          have HF := Lib.hid Hsp.out.2
          have Hfst := Lib.hid (show ∃ f : Nat, f = (if 0 < C.length then C.getD 0 0 else G.length) ∧ f ≤ G.length ∧ (0 < C.length → C.getD 0 0 = f) from ⟨_, rfl, by
            split
            · next h => exact Nat.le_of_lt (Hsp.out.1 0 h).1
            · exact Nat.le_refl _, fun h => by rw [if_pos h]⟩)
          obtain ⟨f, hf, hfl, hf0⟩ := Hfst.out
          rw [← hf] at HF
          have Hf := Lib.hid hf
          clear Hfst hf
          go_upto_if 69 with (fail)
          go_cut [8] (fun v8 wx => v8 = .int .i64 (f : Int) ∧ wx = w2)
          case first =>
            by_cases h0 : 0 < C.length
            · obtain ⟨b2, o2, u2, rfl, hb2, hc0, hu2⟩ := Hat2.out.at_ RNat.stable (Ag.refl _ _) h0
              obtain rfl := hu2
              unfold natV at hc0
              have e0 : C[0] = f := by rw [← hf0 h0]; unfold List.getD; rw [List.getElem?_eq_getElem h0]; rfl
              rw [e0, Nat.add_zero] at hc0
              clear e0 hf0
              go_wp2
              go_meet
              exact ⟨rfl, rfl⟩
            · have hfe : f = G.length := by rw [Hf.out, if_neg h0]
              clear hf0
              go_wp2
              go_meet
              exact ⟨by rw [hfe], rfl⟩
          case rest =>
            obtain ⟨rfl, rfl⟩ := hcut
            clear hf0
            go_wp2
            go_loopw [9] (fun sv wr => ∃ n : Nat, n ≤ f ∧ sv = .int .i64 n ∧ Hid (Below W.heap.size W wr)) (fun sv _ => f - (intOf sv).toNat)
            case atStart => exact ⟨0, Nat.zero_le _, rfl, HB2.out⟩
            case round =>
              obtain ⟨w3, rfl⟩ : ∃ w0 : World, w0 = wr := ⟨_, rfl⟩
              obtain ⟨n, hnle, rfl, HB3⟩ := hrel
              by_cases hnlt : n < f
              · have hnG : n < G.length := by omega
                have Hnr := Lib.hid (HF.out n hnlt)
                have Hs3 := Lib.hid (RNatss.stable.sub (RNatss.stable.below Hs.out HB3.out) (fun b (hb : b < W.heap.size) => (Nat.lt_of_lt_of_le hb HB3.out.size : b < w3.heap.size)))
                have Hde := Lib.hid (refDepth_any _ G n w3 Hs3.out HS.out.ok hnG (by omega))
                go_wp2_with (go_at_call 21
                             with_reducible refine Hde.out.mono ?_
                             rintro e w4 ⟨d, v4, hd4, rfl, hv4, hb4⟩
                             obtain ⟨A4, c4, rfl, hm4, hat4⟩ := hv4.open_
                             have Hat4 := Lib.hid hat4
                             have Hd4 := Lib.hid hd4
                             have HB4 := Lib.hid (below_up HB3.out hb4)
                             have Hs4 := Lib.hid (RNatss.stable.up Hs3.out hb4)
                             rw [hd4.1]
                             clear hat4 hv4 hd4 hb4 hm4)
                clear Hde
                have hdl := Hd4.out.1
                have Hdl := Lib.hid hdl
                clear hdl
                go_loop [83] (fun sv => ∃ k : Nat, k ≤ G.length ∧ sv = .int .i64 k) (fun sv => G.length - (intOf sv).toNat)
                case atStart => exact ⟨0, Nat.zero_le _, rfl⟩
                case round =>
                  obtain ⟨k, hkle, rfl⟩ := hrel
                  by_cases hklt : k < G.length
                  · have hkd : k < d.length := by rw [Hdl.out]; exact hklt
                    obtain ⟨b5, o5, u5, rfl, hb5, hck, hu5⟩ := Hat4.out.at_ RInt.stable (Ag.refl _ _) hkd
                    obtain rfl := hu5
                    have ed : d[k] = dd d k := by unfold dd List.getD; rw [List.getElem?_eq_getElem hkd]; rfl
                    rw [ed] at hck
                    have hri := Hd4.out.reach_iff hklt
                    rw [show d.getD k (-1) = dd d k from rfl] at hri
                    have hle : 0 ≤ dd d k → leads G k n = false := fun h => by
                      cases hx : leads G k n with
                      | false => rfl
                      | true => exact absurd ⟨k, leads_iff.1 hx, hri.1 h⟩ Hnr.out
                    obtain ⟨x, hx⟩ : ∃ x, x = dd d k := ⟨_, rfl⟩
                    rw [← hx] at hck hle
                    clear ed hri hx hb5
                    by_cases h0 : 0 ≤ x
                    · have Hl := Lib.hid (Leads_any _ G k n w4 Hs4.out hklt)
                      rw [hle h0] at Hl
                      have hd0 : decide (0 ≤ x) = true := by simpa using h0
                      clear hle
                      go_wp2_with (go_at_call 27; with_reducible refine Hl.out.mono ?_; rintro e w1 ⟨rfl, rfl⟩)
                      go_round
                      case rel => exact ⟨k + 1, by omega, by go_num⟩
                      case measure => simp [intOf]; omega
                    · have hd0 : decide (0 ≤ x) = false := by simpa using h0
                      clear hle
                      go_wp2
                      go_round
                      case rel => exact ⟨k + 1, by omega, by go_num⟩
                      case measure => simp [intOf]; omega
                  · obtain rfl : k = G.length := by omega
                    go_wp2
                    go_roundw
                    case rel => exact ⟨n + 1, by omega, by go_num, HB4.out⟩
                    case measure => simp [intOf]; omega
              · obtain rfl : n = f := by omega
                go_wp2_with (go_at_call 11; refine (lives_in W _ HB3.out).mono ?_; rintro e w5 ⟨rfl, hb5⟩; have HB5 := Lib.hid hb5; clear hb5)
                go_ret
                exact ⟨rfl, HB5.out⟩
end Go.Proofs.Ytjmenkjmghmkpaa
