/- GraphNobody: the law, walked. -/
import Derived.Test.YtjmenkjmghmkpaaGrK0
namespace Go.Proofs.Ytjmenkjmghmkpaa
open Go.RowKit
open G22

theorem order_some {G : Gr} {w : World} {e : Ending} {w' : World} (h : OrderPost G w e w') : ∃ v b, e = .returned (.tuple #[v, .bool b]) ∧ Below w.heap.size w w' := by
  obtain ⟨v, L, _, hb, h⟩ := h
  rcases h with ⟨_, e, _⟩ | ⟨_, e⟩
  · exact ⟨v, true, e, hb⟩
  · exact ⟨_, false, e, hb⟩
theorem no_node {G : Gr} {x : Int} (h : x < 0 ∨ (G.length : Int) ≤ x) : (mayG (intss G) && isNodeB (intss G).length x) = false := by
  rw [List.length_map, Bool.and_eq_false_iff]
  refine .inr ?_
  unfold isNodeB
  rw [Bool.and_eq_false_iff]
  rcases h with h | h
  · exact .inl (by simp; omega)
  · exact .inr (by simp; omega)
set_option maxRecDepth 100000 in
set_option maxHeartbeats 2000000 in
theorem walk_GraphNobody (W : World) (v0 : Value) (v1 : Value) (v2 : Value) (a0 : Arg Try.prog W 22 v0) (a1 : Arg Try.prog W 3 v1) (a2 : Arg Try.prog W 3 v2) : Calls Try.prog 3 #[v0, v1, v2] W fun e W' => e = .returned (.bool true) ∧ Below W.heap.size W W' := by
  obtain ⟨g, hg⟩ := arg_graph a0
  obtain ⟨A, c, rfl, hm, _⟩ := hg.open_
  obtain ⟨x, rfl, hx1, hx2⟩ := arg_int a1
  obtain ⟨y, rfl, hy1, hy2⟩ := arg_int a2
  have Hg := Lib.hid hg
  have hg0 := hg
  have Hli := Lib.hid (light_any _ g W hg)
  have Hma := Lib.hid (refMay_any _ g W hg)
  have Hlv := Lib.hid (lives_in W W (Below.refl _ _))
  clear hg
  have Hgm := Lib.hid (May_any _ g W hg0)
  clear hg0
  cases hl : lightG g with
  | false =>
    rw [hl] at Hli
    clear hl
    go_enter Try.func3, Try.ntmps3
    go_wp2_with (first
      | (go_at_call 10; with_reducible refine Hli.out.mono ?_; rintro e w1 ⟨rfl, rfl⟩)
      | (go_at_call 13; with_reducible refine Hma.out.mono ?_; rintro e w1 ⟨rfl, rfl⟩)
      | (go_at_call 11; with_reducible refine Hlv.out.mono ?_; rintro e w2 ⟨rfl, hb⟩; have HB := Lib.hid hb; clear hb))
    go_ret
    exact ⟨rfl, HB.out⟩
  | true =>
    rw [hl] at Hli
    cases hmy : mayG g with
    | false =>
      have Hmy := Lib.hid hmy
      have Hno := Lib.hid (show (mayG g && isNodeB g.length x) = false by rw [hmy]; rfl)
      have Hre := Lib.hid (Reach_no _ g x W Hg.out Hno.out)
      have Hde := Lib.hid (Depth_no _ g x W Hg.out Hno.out)
      have Hpa := Lib.hid (Path_no _ g x y W Hg.out Hno.out)
      rw [hmy] at Hma Hgm
      clear hl hmy
      go_enter Try.func3, Try.ntmps3
      go_wp2_with (first
        | (go_at_call 10; with_reducible refine Hli.out.mono ?_; rintro e w1 ⟨rfl, rfl⟩)
        | (go_at_call 12; with_reducible refine Hgm.out.mono ?_; rintro e w1 ⟨rfl, rfl⟩)
        | (go_at_call 13; with_reducible refine Hma.out.mono ?_; rintro e w1 ⟨rfl, rfl⟩)
        | (go_at_call 14; with_reducible refine Hre.out.mono ?_; rintro e w1 ⟨rfl, rfl⟩)
        | (go_at_call 15; with_reducible refine Hde.out.mono ?_; rintro e w1 ⟨rfl, rfl⟩)
        | (go_at_call 16; with_reducible refine Hpa.out.mono ?_; rintro e w2 ⟨rfl, hb2⟩; have HB2 := Lib.hid hb2; have Hp2 := Lib.hid (Path_no _ g x y w2 (RIntss.stable.below Hg.out hb2) Hno.out); clear hb2)
        | (go_at_call 16; with_reducible refine Hp2.out.mono ?_; rintro e w3 ⟨rfl, hb3⟩; have HB3 := Lib.hid (below_up HB2.out hb3); have Hg3 := Lib.hid (RIntss.stable.below Hg.out HB3.out); have Hor := Lib.hid (Order_no _ g w3 Hg3.out Hmy.out); have Htu := Lib.hid (Turned_no _ g w3 Hg3.out Hmy.out); have Hgr := Lib.hid (Groups_no _ g w3 Hg3.out HB3.out.size Hmy.out); clear hb3)
        | (go_at_call 17; with_reducible refine Hor.out.mono ?_; rintro e w1 ⟨rfl, rfl⟩)
        | (go_at_call 18; with_reducible refine Htu.out.mono ?_; rintro e w1 ⟨rfl, rfl⟩)
        | (go_at_call 19; with_reducible refine Hgr.out.mono ?_; rintro e w4 ⟨rfl, hb4⟩; have HB4 := Lib.hid (HB3.out.trans hb4); have Hcy := Lib.hid (Cycle_no _ g w4 (RIntss.stable.below Hg3.out hb4) Hmy.out); clear hb4)
        | (go_at_call 20; with_reducible refine Hcy.out.mono ?_; rintro e w1 ⟨rfl, rfl⟩)
        | (go_at_call 11; refine (lives_in W _ HB4.out).mono ?_; rintro e w5 ⟨rfl, hb5⟩; have HB5 := Lib.hid hb5; clear hb5))
      go_ret
      exact ⟨rfl, HB5.out⟩
    | true =>
      obtain ⟨G, rfl, hS⟩ := small_of hl hmy
      have HS := Lib.hid hS
      have Hs := Lib.hid (natss_of_intss Hg.out)
      rw [hmy] at Hma Hgm
      rw [List.length_map] at *
      clear hl hmy hS
      by_cases hx0 : x < 0
      · have Hn := Lib.hid (no_node (G := G) (x := x) (.inl hx0))
        have Hre := Lib.hid (Reach_no _ (intss G) x W Hg.out Hn.out)
        have Hde := Lib.hid (Depth_no _ (intss G) x W Hg.out Hn.out)
        have Hpa := Lib.hid (Path_no _ (intss G) x y W Hg.out Hn.out)
        go_enter Try.func3, Try.ntmps3
        go_wp2_with (first
          | (go_at_call 10; with_reducible refine Hli.out.mono ?_; rintro e w1 ⟨rfl, rfl⟩)
          | (go_at_call 12; with_reducible refine Hgm.out.mono ?_; rintro e w1 ⟨rfl, rfl⟩)
          | (go_at_call 13; with_reducible refine Hma.out.mono ?_; rintro e w1 ⟨rfl, rfl⟩)
          | (go_at_call 14; with_reducible refine Hre.out.mono ?_; rintro e w1 ⟨rfl, rfl⟩)
          | (go_at_call 15; with_reducible refine Hde.out.mono ?_; rintro e w1 ⟨rfl, rfl⟩)
          | (go_at_call 16; with_reducible refine Hpa.out.mono ?_; rintro e w2 ⟨rfl, hb2⟩; have HB2 := Lib.hid hb2; have Hp2 := Lib.hid (Path_no _ (intss G) x y w2 (RIntss.stable.below Hg.out hb2) Hn.out); clear hb2)
          | (go_at_call 16; with_reducible refine Hp2.out.mono ?_; rintro e w3 ⟨rfl, hb3⟩; have HBO := Lib.hid (below_up HB2.out hb3); have HsO := Lib.hid (RNatss.stable.up Hs.out HBO.out); clear hb3)
          | (go_at_call 17; refine (Order_any G _ _ _ HsO.out HS.out.ok (Nat.le_trans HS.out.len (by omega)) HS.out.rows').mono ?_; intro e w4 ho; obtain ⟨v4, b4, rfl, hb4⟩ := order_some ho; have HB4 := Lib.hid (below_up HBO.out hb4); clear ho hb4)
          | (go_at_call 11; refine (lives_in W _ HB4.out).mono ?_; rintro e w5 ⟨rfl, hb5⟩; have HB5 := Lib.hid hb5; clear hb5))
        go_ret
        exact ⟨rfl, HB5.out⟩
      by_cases hxl : (G.length : Int) ≤ x
      · have Hn := Lib.hid (no_node (G := G) (x := x) (.inr hxl))
        have Hre := Lib.hid (Reach_no _ (intss G) x W Hg.out Hn.out)
        have Hde := Lib.hid (Depth_no _ (intss G) x W Hg.out Hn.out)
        have Hpa := Lib.hid (Path_no _ (intss G) x y W Hg.out Hn.out)
        go_enter Try.func3, Try.ntmps3
        go_wp2_with (first
          | (go_at_call 10; with_reducible refine Hli.out.mono ?_; rintro e w1 ⟨rfl, rfl⟩)
          | (go_at_call 12; with_reducible refine Hgm.out.mono ?_; rintro e w1 ⟨rfl, rfl⟩)
          | (go_at_call 13; with_reducible refine Hma.out.mono ?_; rintro e w1 ⟨rfl, rfl⟩)
          | (go_at_call 14; with_reducible refine Hre.out.mono ?_; rintro e w1 ⟨rfl, rfl⟩)
          | (go_at_call 15; with_reducible refine Hde.out.mono ?_; rintro e w1 ⟨rfl, rfl⟩)
          | (go_at_call 16; with_reducible refine Hpa.out.mono ?_; rintro e w2 ⟨rfl, hb2⟩; have HB2 := Lib.hid hb2; have Hp2 := Lib.hid (Path_no _ (intss G) x y w2 (RIntss.stable.below Hg.out hb2) Hn.out); clear hb2)
          | (go_at_call 16; with_reducible refine Hp2.out.mono ?_; rintro e w3 ⟨rfl, hb3⟩; have HBO := Lib.hid (below_up HB2.out hb3); have HsO := Lib.hid (RNatss.stable.up Hs.out HBO.out); clear hb3)
          | (go_at_call 17; refine (Order_any G _ _ _ HsO.out HS.out.ok (Nat.le_trans HS.out.len (by omega)) HS.out.rows').mono ?_; intro e w4 ho; obtain ⟨v4, b4, rfl, hb4⟩ := order_some ho; have HB4 := Lib.hid (below_up HBO.out hb4); clear ho hb4)
          | (go_at_call 11; refine (lives_in W _ HB4.out).mono ?_; rintro e w5 ⟨rfl, hb5⟩; have HB5 := Lib.hid hb5; clear hb5))
        go_ret
        exact ⟨rfl, HB5.out⟩
      obtain ⟨a, rfl⟩ : ∃ a : Nat, x = a := ⟨x.toNat, by omega⟩
      have hal : a < G.length := by omega
      by_cases hy0 : y < 0
      · have Hpt := Lib.hid (Path_to _ G a y W Hs.out HS.out.ok hal (Nat.le_trans HS.out.len (by omega)) (by simp [isNodeB]; omega))
        go_enter Try.func3, Try.ntmps3
        go_wp2_with (first
          | (go_at_call 10; with_reducible refine Hli.out.mono ?_; rintro e w1 ⟨rfl, rfl⟩)
          | (go_at_call 12; with_reducible refine Hgm.out.mono ?_; rintro e w1 ⟨rfl, rfl⟩)
          | (go_at_call 13; with_reducible refine Hma.out.mono ?_; rintro e w1 ⟨rfl, rfl⟩)
          | (go_at_call 16; with_reducible refine Hpt.out.mono ?_; rintro e w3 ⟨rfl, hb3⟩; have HBO := Lib.hid hb3; have HsO := Lib.hid (RNatss.stable.up Hs.out hb3); clear hb3)
          | (go_at_call 17; refine (Order_any G _ _ _ HsO.out HS.out.ok (Nat.le_trans HS.out.len (by omega)) HS.out.rows').mono ?_; intro e w4 ho; obtain ⟨v4, b4, rfl, hb4⟩ := order_some ho; have HB4 := Lib.hid (below_up HBO.out hb4); clear ho hb4)
          | (go_at_call 11; refine (lives_in W _ HB4.out).mono ?_; rintro e w5 ⟨rfl, hb5⟩; have HB5 := Lib.hid hb5; clear hb5))
        go_ret
        exact ⟨rfl, HB5.out⟩
      by_cases hyl : (G.length : Int) ≤ y
      · have Hpt := Lib.hid (Path_to _ G a y W Hs.out HS.out.ok hal (Nat.le_trans HS.out.len (by omega)) (by simp [isNodeB]; omega))
        go_enter Try.func3, Try.ntmps3
        go_wp2_with (first
          | (go_at_call 10; with_reducible refine Hli.out.mono ?_; rintro e w1 ⟨rfl, rfl⟩)
          | (go_at_call 12; with_reducible refine Hgm.out.mono ?_; rintro e w1 ⟨rfl, rfl⟩)
          | (go_at_call 13; with_reducible refine Hma.out.mono ?_; rintro e w1 ⟨rfl, rfl⟩)
          | (go_at_call 16; with_reducible refine Hpt.out.mono ?_; rintro e w3 ⟨rfl, hb3⟩; have HBO := Lib.hid hb3; have HsO := Lib.hid (RNatss.stable.up Hs.out hb3); clear hb3)
          | (go_at_call 17; refine (Order_any G _ _ _ HsO.out HS.out.ok (Nat.le_trans HS.out.len (by omega)) HS.out.rows').mono ?_; intro e w4 ho; obtain ⟨v4, b4, rfl, hb4⟩ := order_some ho; have HB4 := Lib.hid (below_up HBO.out hb4); clear ho hb4)
          | (go_at_call 11; refine (lives_in W _ HB4.out).mono ?_; rintro e w5 ⟨rfl, hb5⟩; have HB5 := Lib.hid hb5; clear hb5))
        go_ret
        exact ⟨rfl, HB5.out⟩
      have HsO := Hs
      have HBO := Lib.hid (Below.refl W.heap.size W)
      go_enter Try.func3, Try.ntmps3
      go_wp2_with (first
        | (go_at_call 10; with_reducible refine Hli.out.mono ?_; rintro e w1 ⟨rfl, rfl⟩)
        | (go_at_call 12; with_reducible refine Hgm.out.mono ?_; rintro e w1 ⟨rfl, rfl⟩)
        | (go_at_call 13; with_reducible refine Hma.out.mono ?_; rintro e w1 ⟨rfl, rfl⟩)
        | (go_at_call 17; refine (Order_any G _ _ _ HsO.out HS.out.ok (Nat.le_trans HS.out.len (by omega)) HS.out.rows').mono ?_; intro e w4 ho; obtain ⟨v4, b4, rfl, hb4⟩ := order_some ho; have HB4 := Lib.hid (below_up HBO.out hb4); clear ho hb4)
        | (go_at_call 11; refine (lives_in W _ HB4.out).mono ?_; rintro e w5 ⟨rfl, hb5⟩; have HB5 := Lib.hid hb5; clear hb5))
      go_ret
      exact ⟨rfl, HB5.out⟩
end Go.Proofs.Ytjmenkjmghmkpaa
