/- GraphGroups: the law, walked. -/
import Derived.Test.YtjmenkjmghmkpaaGrK0
namespace Go.Proofs.Ytjmenkjmghmkpaa
open Go.RowKit
open G22

set_option maxRecDepth 100000 in
set_option maxHeartbeats 2000000 in
theorem walk_GraphGroups (W : World) (v0 : Value) (a0 : Arg Try.prog W 22 v0) : Calls Try.prog 5 #[v0] W fun e W' => e = .returned (.bool true) ∧ Below W.heap.size W W' := by
  obtain ⟨g, hg⟩ := arg_graph a0
  obtain ⟨A, c, rfl, hm, _⟩ := hg.open_
  have Hg := Lib.hid hg
  have Hli := Lib.hid (light_any _ g W hg)
  have Hma := Lib.hid (refMay_any _ g W hg)
  have Hlv := Lib.hid (lives_in W W (Below.refl _ _))
  clear hg
  cases hl : lightG g with
  | false =>
    rw [hl] at Hli
    clear hl
    go_enter Try.func5, Try.ntmps5
    go_wp2_with (first
      | (go_at_call 10; with_reducible refine Hli.out.mono ?_; rintro e w1 ⟨rfl, rfl⟩)
      | (go_at_call 11; with_reducible refine Hlv.out.mono ?_; rintro e w2 ⟨rfl, hb⟩; have HB := Lib.hid hb; clear hb))
    go_ret
    exact ⟨rfl, HB.out⟩
  | true =>
    cases hmy : mayG g with
    | false =>
      rw [hl] at Hli
      rw [hmy] at Hma
      clear hl hmy
      go_enter Try.func5, Try.ntmps5
      go_wp2_with (first
        | (go_at_call 10; with_reducible refine Hli.out.mono ?_; rintro e w1 ⟨rfl, rfl⟩)
        | (go_at_call 13; with_reducible refine Hma.out.mono ?_; rintro e w1 ⟨rfl, rfl⟩)
        | (go_at_call 11; with_reducible refine Hlv.out.mono ?_; rintro e w2 ⟨rfl, hb⟩; have HB := Lib.hid hb; clear hb))
      go_ret
      exact ⟨rfl, HB.out⟩
    | true =>
      obtain ⟨G, rfl, hS⟩ := small_of hl hmy
      have HS := Lib.hid hS
      have Hs := Lib.hid (natss_of_intss Hg.out)
      rw [hl] at Hli
      rw [hmy] at Hma
      rw [List.length_map] at *
      clear hl hmy hS Hlv
      go_enter Try.func5, Try.ntmps5
      go_wp2_with (first
        | (go_at_call 10; with_reducible refine Hli.out.mono ?_; rintro e w1 ⟨rfl, rfl⟩)
        | (go_at_call 13; with_reducible refine Hma.out.mono ?_; rintro e w1 ⟨rfl, rfl⟩)
        | (go_at_call 19
           refine (Groups_any G W A c Hs.out HS.out.ok (Nat.le_trans HS.out.len (by omega)) HS.out.rows').mono ?_
           rintro e w2 ⟨v2, L2, rfl, hv2, hp2, hb2⟩
           have HB2 := Lib.hid hb2
           have HV2 := Lib.hid hv2
           have HP2 := Lib.hid hp2
           have Hs2 := Lib.hid (RNatss.stable.up Hs.out hb2)
           clear hb2 hv2 hp2)
        | (go_at_call 25
           refine (refGroups_any _ G w2 Hs2.out HS.out.ok (Nat.le_trans HS.out.len (by omega))).mono ?_
           rintro e w3 ⟨v3, L3, rfl, hv3, hp3, hb3⟩
           obtain rfl := hp3.unique HP2.out
           have HB3 := Lib.hid (below_up HB2.out hb3)
           have Hal := Lib.hid (all_true (RNatss.stable.up HV2.out hb3) hv3)
           clear hb3 hv3 hp3)
        | (go_at_call 24; with_reducible refine Hal.out.mono ?_; rintro e w4 ⟨rfl, n4, rfl⟩)
        | (go_at_call 11; refine (lives_in W _ (below_drewN HB3.out n4)).mono ?_; rintro e w5 ⟨rfl, hb5⟩; have HB5 := Lib.hid hb5; clear hb5))
      go_ret
      exact ⟨rfl, HB5.out⟩
end Go.Proofs.Ytjmenkjmghmkpaa
