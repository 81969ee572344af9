/- GraphDepths: the law, walked. -/
import Derived.Test.YtjmenkjmghmkpaaGrK0
namespace Go.Proofs.Ytjmenkjmghmkpaa
open Go.RowKit
open G22

set_option maxRecDepth 100000 in
set_option maxHeartbeats 2000000 in
theorem walk_GraphDepths (W : World) (v0 : Value) (v1 : Value) (v2 : Value) (a0 : Arg Try.prog W 22 v0) (a1 : Arg Try.prog W 3 v1) (a2 : Arg Try.prog W 3 v2) : Calls Try.prog 4 #[v0, v1, v2] W fun e W' => e = .returned (.bool true) ∧ Below W.heap.size W W' := by
  obtain ⟨g, hg⟩ := arg_graph a0
  obtain ⟨A, c, rfl, hm, _⟩ := hg.open_
  obtain ⟨x, rfl, hx1, hx2⟩ := arg_int a1
  obtain ⟨y, rfl, hy1, hy2⟩ := arg_int a2
  have Hg := Lib.hid hg
  have Hli := Lib.hid (light_any _ g W hg)
  have Hma := Lib.hid (refMay_any _ g W hg)
  have Hlv := Lib.hid (lives_in W W (Below.refl _ _))
  clear hg
  cases hl : lightG g with
  | false =>
    rw [hl] at Hli
    clear hl
    go_enter Try.func4, Try.ntmps4
    go_wp2_with (first
      | (go_at_call 10; with_reducible refine Hli.out.mono ?_; rintro e w1 ⟨rfl, rfl⟩)
      | (go_at_call 13; with_reducible refine Hma.out.mono ?_; rintro e w1 ⟨rfl, rfl⟩)
      | (go_at_call 11; with_reducible refine Hlv.out.mono ?_; rintro e w2 ⟨rfl, hb⟩; have HB := Lib.hid hb; clear hb))
    go_ret
    exact ⟨rfl, HB.out⟩
  | true =>
    rw [hl] at Hli
    cases hmy : mayG g with
    | false =>
      rw [hmy] at Hma
      clear hl hmy
      go_enter Try.func4, Try.ntmps4
      go_wp2_with (first
        | (go_at_call 10; with_reducible refine Hli.out.mono ?_; rintro e w1 ⟨rfl, rfl⟩)
        | (go_at_call 13; with_reducible refine Hma.out.mono ?_; rintro e w1 ⟨rfl, rfl⟩)
        | (go_at_call 11; with_reducible refine Hlv.out.mono ?_; rintro e w2 ⟨rfl, hb⟩; have HB := Lib.hid hb; clear hb))
      go_ret
      exact ⟨rfl, HB.out⟩
    | true =>
      obtain ⟨G, rfl, hS⟩ := small_of hl hmy
      have HS := Lib.hid hS
      have Hs := Lib.hid (natss_of_intss Hg.out)
      rw [hmy] at Hma
      rw [List.length_map] at *
      clear hl hmy hS
      by_cases hx0 : x < 0
      · go_enter Try.func4, Try.ntmps4
        go_wp2_with (first
          | (go_at_call 10; with_reducible refine Hli.out.mono ?_; rintro e w1 ⟨rfl, rfl⟩)
          | (go_at_call 13; with_reducible refine Hma.out.mono ?_; rintro e w1 ⟨rfl, rfl⟩)
          | (go_at_call 11; with_reducible refine Hlv.out.mono ?_; rintro e w2 ⟨rfl, hb⟩; have HB := Lib.hid hb; clear hb))
        go_ret
        exact ⟨rfl, HB.out⟩
      obtain ⟨a, rfl⟩ : ∃ a : Nat, x = a := ⟨x.toNat, by omega⟩
      by_cases hxl : (G.length : Int) ≤ (a : Int)
      · go_enter Try.func4, Try.ntmps4
        go_wp2_with (first
          | (go_at_call 10; with_reducible refine Hli.out.mono ?_; rintro e w1 ⟨rfl, rfl⟩)
          | (go_at_call 13; with_reducible refine Hma.out.mono ?_; rintro e w1 ⟨rfl, rfl⟩)
          | (go_at_call 11; with_reducible refine Hlv.out.mono ?_; rintro e w2 ⟨rfl, hb⟩; have HB := Lib.hid hb; clear hb))
        go_ret
        exact ⟨rfl, HB.out⟩
      by_cases hy0 : y < 0
      · go_enter Try.func4, Try.ntmps4
        go_wp2_with (first
          | (go_at_call 10; with_reducible refine Hli.out.mono ?_; rintro e w1 ⟨rfl, rfl⟩)
          | (go_at_call 13; with_reducible refine Hma.out.mono ?_; rintro e w1 ⟨rfl, rfl⟩)
          | (go_at_call 11; with_reducible refine Hlv.out.mono ?_; rintro e w2 ⟨rfl, hb⟩; have HB := Lib.hid hb; clear hb))
        go_ret
        exact ⟨rfl, HB.out⟩
      obtain ⟨b, rfl⟩ : ∃ b : Nat, y = b := ⟨y.toNat, by omega⟩
      by_cases hyl : (G.length : Int) ≤ (b : Int)
      · go_enter Try.func4, Try.ntmps4
        go_wp2_with (first
          | (go_at_call 10; with_reducible refine Hli.out.mono ?_; rintro e w1 ⟨rfl, rfl⟩)
          | (go_at_call 13; with_reducible refine Hma.out.mono ?_; rintro e w1 ⟨rfl, rfl⟩)
          | (go_at_call 11; with_reducible refine Hlv.out.mono ?_; rintro e w2 ⟨rfl, hb⟩; have HB := Lib.hid hb; clear hb))
        go_ret
        exact ⟨rfl, HB.out⟩
      have hal : a < G.length := by omega
      have hbl : b < G.length := by omega
      have Hal := Lib.hid hal
      have Hbl := Lib.hid hbl
      have hGl : G.length ≤ 30 := HS.out.len
      clear hx0 hy0 hx1 hx2 hy1 hy2 Hlv
      go_enter Try.func4, Try.ntmps4
      go_wp2_with (first
        | (go_at_call 10; with_reducible refine Hli.out.mono ?_; rintro e w1 ⟨rfl, rfl⟩)
        | (go_at_call 13; with_reducible refine Hma.out.mono ?_; rintro e w1 ⟨rfl, rfl⟩)
        | (go_at_call 21
           refine (refDepth_any _ G a W Hs.out HS.out.ok Hal.out (by omega)).mono ?_
           rintro e w2 ⟨d, v2, hd2, rfl, hv2, hb2⟩
           obtain ⟨A2, c2, rfl, hm2, hat2⟩ := hv2.open_
           have Hat2 := Lib.hid hat2
           have HV2 := Lib.hid hv2
           have Hd2 := Lib.hid hd2
           have HB2 := Lib.hid hb2
           have Hdl := Lib.hid hd2.1
           have hdl : d.length = G.length := hd2.1
           rw [hdl]
           rw [hdl] at HV2
           clear hat2 hv2 hd2 hb2 hdl hm2))
      clear hal hbl hxl hyl
      obtain ⟨D, hD⟩ : ∃ D, D = w2.heap.size := ⟨_, rfl⟩
      have HD := Lib.hid hD
      clear hD
      go_loopw [45, 8] (fun sv ov wr => ∃ k : Nat, k ≤ G.length ∧ sv = .int .i64 k ∧ Hid (wr.ownsRow D 3 1 ov (reachTo d k).length ((reachTo d k).map natV)) ∧ Hid (Below D w2 wr)) (fun sv _ _ => G.length - (intOf sv).toNat)
      case atStart => exact ⟨0, Nat.zero_le _, rfl, World.ownsRow_nil _ _ _ _, Below.refl _ _⟩
      case round =>
        obtain ⟨w5, rfl⟩ : ∃ w0 : World, w0 = wr := ⟨_, rfl⟩
        obtain ⟨k, hkle, rfl, Hown, HBw⟩ := hrel
        obtain ⟨Ao, co, rfl⟩ := own_shape Hown.out
        have hle := reachTo_length d k
        have hsz : D ≤ w5.heap.size := by rw [HD.out]; exact HBw.out.size
        by_cases hklt : k < G.length
        · have hkd : k < d.length := by rw [Hdl.out]; exact hklt
          obtain ⟨b2, o2, u2, rfl, hb2', hck, hu2⟩ := Hat2.out.at_ RInt.stable (w' := w5) (fun b hb => HBw.out.block b (by rw [HD.out]; exact hb.2)) hkd
          obtain rfl := hu2
          have hdk : dd d k = d[k] := by simp [dd, List.getD, hkd]
          have Hsucc := Lib.hid (reachTo_succ d k)
          by_cases h0 : 0 ≤ d[k]
          · rw [hdk, if_pos h0] at Hsucc
            clear hdk hb2'
            go_wp2_with (at_builtin; refine wpList_push rfl _ _ _ rfl eInt (v := .slice Ao (reachTo d k).length co) rfl (Hown.out.alloc _) w5.heap.size (natV k) rfl (by simp [go_sem, natV]) rfl (by omega) (by simp; omega) ?_; intro v7 w7 hown7 hg7 hat7)
            have HB7 := Lib.hid ((HBw.out.alloc (by omega) _).grown hg7 (by simp; omega) (fun b hb => (Hown.out.lt b hb).1))
            have Ho7 := Lib.hid (show w7.ownsRow D 3 1 v7 (reachTo d (k + 1)).length ((reachTo d (k + 1)).map natV) by rw [Hsucc.out]; simpa using hown7)
            clear hown7 hg7 hat7
            go_roundw
            case rel => exact ⟨k + 1, by omega, by go_num, Ho7.out, HB7.out⟩
            case measure => simp [intOf]; omega
          · rw [hdk, if_neg h0, List.append_nil] at Hsucc
            clear hdk hb2'
            go_wp2
            go_roundw
            case rel => exact ⟨k + 1, by omega, by go_num, by rw [Hsucc.out]; exact Hown.out, HBw.out⟩
            case measure => simp [intOf]; omega
        · obtain rfl : k = G.length := by omega
          have HR := Lib.hid (show RNats w5 (Lt w5.heap.size) (.slice Ao (reachTo d G.length).length co) (reachL d) from by have := nats_of_own Hown.out (own_lt Hown.out); rwa [show reachL d = reachTo d G.length by unfold reachL; rw [Hdl.out]])
          have HB5 := Lib.hid (below_up HB2.out (show Below w2.heap.size w2 w5 by rw [← HD.out]; exact HBw.out))
          have Hs5 := Lib.hid (RNatss.stable.sub (RNatss.stable.below Hs.out HB5.out) (fun b (hb : b < W.heap.size) => (Nat.lt_of_lt_of_le hb HB5.out.size : b < w5.heap.size)))
          have HV5 := Lib.hid (show RInts w5 (Lt w5.heap.size) (.slice A2 G.length c2) d from RInts.stable _ _ _ _ _ _ HV2.out (fun b hb => HBw.out.block b (by rw [HD.out]; exact hb.2)) (fun b hb => (Nat.lt_of_lt_of_le hb.2 HBw.out.size : b < w5.heap.size)))
          clear Hown HBw Hs Hat2 HV2
          go_wp2_with (first
            | (go_at_call 15
               refine (Depth_any _ G a w5 Hs5.out HS.out.ok Hal.out (Nat.le_trans HS.out.len (by omega))).mono ?_
               rintro e w6 ⟨d6, hd6, rfl, hv6, hb6⟩
               obtain rfl := hd6.unique Hd2.out
               have HB6 := Lib.hid (below_up HB5.out hb6)
               have Hsa := Lib.hid (same_ints (VBlk.reads hv6 (S := fun b => b = w5.heap.size) rfl (by rw [Hdl.out]; omega)) (RInts.stable.up HV5.out hb6))
               have hdl6 : d6.length = G.length := hd6.1
               rw [hdl6] at Hsa
               have Hs6 := Lib.hid (RNatss.stable.up Hs5.out hb6)
               have HR6 := Lib.hid (RNats.stable.up HR.out hb6)
               clear hd6 hv6 hb6)
            | (go_at_call 22; with_reducible refine Hsa.out.mono ?_; rintro e w7 ⟨rfl, n7, rfl⟩)
            | (go_at_call 14
               refine (Reach_any _ G a (w6.drewN n7) Hs6.out HS.out.ok Hal.out (Nat.le_trans HS.out.len (by omega))).mono ?_
               rintro e w8 ⟨d8, v8, hd8, rfl, hv8, hb8⟩
               obtain rfl := hd8.unique Hd2.out
               have HB8 := Lib.hid (below_up (below_drewN HB6.out n7) hb8)
               have Hsb := Lib.hid (same_true hv8 (RNats.stable.up (show RNats (w6.drewN n7) (Lt (w6.drewN n7).heap.size) _ _ from HR6.out) hb8))
               have Hs8 := Lib.hid (RNatss.stable.up (show RNatss (w6.drewN n7) (Lt (w6.drewN n7).heap.size) _ _ from Hs6.out) hb8)
               clear hd8 hv8 hb8)
            | (go_at_call 22; with_reducible refine Hsb.out.mono ?_; rintro e w9 ⟨rfl, n9, rfl⟩)
            | (go_at_call 16
               refine (Path_any _ G a b (w8.drewN n9) Hs8.out HS.out.ok Hal.out Hbl.out (Nat.le_trans HS.out.len (by omega)) HS.out.rows').mono ?_
               rintro e w10 ⟨d10, v10, hd10, rfl, hv10, hb10⟩
               obtain rfl := hd10.unique Hd2.out
               have HB10 := Lib.hid (below_up (below_drewN HB8.out n9) hb10)
               have HV10 := Lib.hid hv10
               have Hs10 := Lib.hid (RNatss.stable.up (show RNatss (w8.drewN n9) (Lt (w8.drewN n9).heap.size) _ _ from Hs8.out) hb10)
               clear hd10 hv10 hb10)
            | (go_at_call 23
               refine (refPath_any _ G a b w10 Hs10.out HS.out.ok Hal.out Hbl.out (Nat.le_trans HS.out.len (by omega))).mono ?_
               rintro e w11 ⟨d11, v11, hd11, rfl, hv11, hb11⟩
               obtain rfl := hd11.unique Hd2.out
               have HB11 := Lib.hid (below_up HB10.out hb11)
               have Hsc := Lib.hid (same_true (RNats.stable.up HV10.out hb11) hv11)
               clear hd11 hv11 hb11)
            | (go_at_call 22; with_reducible refine Hsc.out.mono ?_; rintro e w12 ⟨rfl, n12, rfl⟩)
            | (go_at_call 11; refine (lives_in W _ (below_drewN HB11.out n12)).mono ?_; rintro e w13 ⟨rfl, hb13⟩; have HB13 := Lib.hid hb13; clear hb13))
          go_ret
          exact ⟨rfl, HB13.out⟩
end Go.Proofs.Ytjmenkjmghmkpaa
