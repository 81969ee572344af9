/- GraphTurned: the law, walked. -/
import Derived.Test.YtjmenkjmghmkpaaGrO3
import Derived.Test.YtjmenkjmghmkpaaGrK0
namespace Go.Proofs.Ytjmenkjmghmkpaa
open Go.RowKit
open G22

theorem turn_read {G : Gr} {w w' : World} {e : Ending} (hl : G.length ≤ 1000000) (h : TurnPost G w e w') : e = .returned (.slice (some ⟨w.heap.size, 0, none⟩) G.length G.length) ∧ RNatss w' (Lt w'.heap.size) (.slice (some ⟨w.heap.size, 0, none⟩) G.length G.length) (turnG G) ∧ Below w.heap.size w w' := by
  obtain ⟨vs, he, hr, hb⟩ := h
  refine ⟨he, ?_, hb⟩
  have := hr.reads (R := RNat) (fun _ _ _ => rfl) (S := Lt w'.heap.size) (fun b _ h => h) (by rw [turnG_length]; exact hl)
  rwa [turnG_length] at this
theorem leads_true {s : Value} {G : Gr} {a b : Nat} {w : World} {B : Nat} (hs : RNatss w (Lt B) s G) (he : G22.Edge G a b) : Calls Try.prog 27 #[s, .int .i64 a, .int .i64 b] w fun e w' => e = .returned (.bool true) ∧ w = w' := by
  have := Leads_any s G a b w hs he.lt
  rwa [leads_iff.2 he] at this
/-- A row of a graph in memory. -/
theorem row_cells {G : Gr} {w w' : World} {S : Nat → Prop} {A : Option Addr} {a : Nat} (h : RAt RNats w S A G) (ha : Ag S w w') (hl : a < G.length) : ∃ b o Ar cr, A = some ⟨b, o, none⟩ ∧ w'.cell? ⟨b, o + a, none⟩ = some (.slice Ar (row G a).length cr) ∧ RAt RNat w' S Ar (row G a) := by
  obtain ⟨b, o, u, e, _, hc, hu⟩ := h.at_ RNats.stable ha hl
  rw [← row_at hl] at hu
  obtain ⟨Ar, cr, rfl, _, hat⟩ := hu.open_
  exact ⟨b, o, Ar, cr, e, hc, hat⟩
theorem row_cell {l : List Nat} {w w' : World} {S : Nat → Prop} {A : Option Addr} {i : Nat} (h : RAt RNat w S A l) (ha : Ag S w w') (hl : i < l.length) : ∃ b o, A = some ⟨b, o, none⟩ ∧ w'.cell? ⟨b, o + i, none⟩ = some (.int .i64 (l[i] : Nat)) := by
  obtain ⟨b, o, u, e, _, hc, hu⟩ := h.at_ RNat.stable ha hl
  obtain rfl := hu
  exact ⟨b, o, e, hc⟩
theorem turned_to {G T : Gr} {a x : Nat} (hT : T = turnG G) (ha : a < G.length) (h : G22.Edge T a x) : G22.Edge G x a := by subst hT; exact (turn_edge ha).1 h
theorem turned_from {G T : Gr} {a x : Nat} (hT : T = turnG G) (ha : a < G.length) (h : G22.Edge G x a) : G22.Edge T a x := by subst hT; exact (turn_edge ha).2 h
set_option maxRecDepth 100000 in
set_option maxHeartbeats 2000000 in
theorem walk_GraphTurned (W : World) (v0 : Value) (a0 : Arg Try.prog W 22 v0) : Calls Try.prog 8 #[v0] W fun e W' => e = .returned (.bool true) ∧ Below W.heap.size W W' := by
  obtain ⟨g, hg⟩ := arg_graph a0
  obtain ⟨A, c, rfl, hm, _⟩ := hg.open_
  have Hg := Lib.hid hg
  have Hli := Lib.hid (light_any _ g W hg)
  have Hma := Lib.hid (refMay_any _ g W hg)
  have Hlv := Lib.hid (lives_in W W (Below.refl _ _))
  clear hg
  cases hl : lightG g with
  | false =>
    rw [hl] at Hli
    clear hl
    go_enter Try.func8, Try.ntmps8
    go_wp2_with (first
      | (go_at_call 10; with_reducible refine Hli.out.mono ?_; rintro e w1 ⟨rfl, rfl⟩)
      | (go_at_call 13; with_reducible refine Hma.out.mono ?_; rintro e w1 ⟨rfl, rfl⟩)
      | (go_at_call 11; with_reducible refine Hlv.out.mono ?_; rintro e w2 ⟨rfl, hb⟩; have HB := Lib.hid hb; clear hb))
    go_ret
    exact ⟨rfl, HB.out⟩
  | true =>
    rw [hl] at Hli
    cases hmy : mayG g with
    | false =>
      rw [hmy] at Hma
      clear hl hmy
      go_enter Try.func8, Try.ntmps8
      go_wp2_with (first
        | (go_at_call 10; with_reducible refine Hli.out.mono ?_; rintro e w1 ⟨rfl, rfl⟩)
        | (go_at_call 13; with_reducible refine Hma.out.mono ?_; rintro e w1 ⟨rfl, rfl⟩)
        | (go_at_call 11; with_reducible refine Hlv.out.mono ?_; rintro e w2 ⟨rfl, hb⟩; have HB := Lib.hid hb; clear hb))
      go_ret
      exact ⟨rfl, HB.out⟩
    | true =>
      obtain ⟨G, rfl, hS⟩ := small_of hl hmy
      have HS := Lib.hid hS
      have Hs := Lib.hid (natss_of_intss Hg.out)
      rw [hmy] at Hma
      rw [List.length_map] at *
      clear hl hmy hS
      have hGl : G.length ≤ 30 := HS.out.len
      have Htu := Lib.hid (Turned_any _ G W Hs.out HS.out.ok (by omega) HS.out.rows')
      clear Hlv
      go_enter Try.func8, Try.ntmps8
      go_wp2_with (first
        | (go_at_call 10; with_reducible refine Hli.out.mono ?_; rintro e w1 ⟨rfl, rfl⟩)
        | (go_at_call 13; with_reducible refine Hma.out.mono ?_; rintro e w1 ⟨rfl, rfl⟩)
        | (go_at_call 18
           with_reducible refine Htu.out.mono ?_
           intro e w2 ht
           obtain ⟨rfl, hv2, hb2⟩ := turn_read (by omega) ht
           have HV2 := Lib.hid hv2
           have HB2 := Lib.hid hb2
           clear ht hv2 hb2))
      have Hs2 := Lib.hid (RNatss.stable.up Hs.out HB2.out)
      obtain ⟨_, c1, e1, _, hatg⟩ := Hs2.out.open_
      cases e1
      have Hatg := Lib.hid hatg
      obtain ⟨T, hT⟩ : ∃ T, T = turnG G := ⟨_, rfl⟩
      have HT := Lib.hid hT
      have hTl : T.length = G.length := by rw [hT, turnG_length]
      rw [← hT] at HV2
      obtain ⟨At, ct, et, _, hatt⟩ := HV2.out.open_
      rw [hTl] at et
      cases et
      have Hatt := Lib.hid hatt
      have HTl := Lib.hid hTl
      have Hle := Lib.hid (fun n => lenTo_le (G := G) HS.out.rows n)
      have HTrow := Lib.hid (show ∀ a, (row T a).length ≤ 1200 from fun a => by
        rw [HT.out]
        rcases Nat.lt_or_ge a G.length with h | h
        · rw [row_turn h]
          have := turnTo_le (n := G.length) (b := a) (m := 40) HS.out.rows
          omega
        · unfold row List.getD
          rw [List.getElem?_eq_none (by rw [turnG_length]; exact h)]
          exact Nat.zero_le _)
      have HleT := Lib.hid (fun n => lenTo_le (G := T) HTrow.out n)
      obtain ⟨O, hO⟩ : ∃ O, O = W.heap.size := ⟨_, rfl⟩
      rw [← hO] at HV2 Hatt ⊢
      have HO := Lib.hid hO
      clear hatg hatt hT hTl hO Htu
      go_loop [33, 4, 5] (fun sv v4 v5 => ∃ a : Nat, a ≤ G.length ∧ sv = .int .i64 a ∧ v4 = .int .i64 (lenTo G a : Nat) ∧ v5 = .int .i64 (lenTo T a : Nat)) (fun sv _ _ => G.length - (intOf sv).toNat)
      case atStart => exact ⟨0, Nat.zero_le _, rfl, rfl, rfl⟩
      case round =>
        obtain ⟨a, hale, rfl, rfl, rfl⟩ := hrel
        by_cases halt : a < G.length
        · obtain ⟨bg, og, Ag2, cg, rfl, hcg, hag⟩ := row_cells Hatg.out (Ag.refl _ _) halt
          obtain ⟨bt, ot, At2, ct2, e, hct, hat2⟩ := row_cells Hatt.out (Ag.refl _ _) (a := a) (by rw [HTl.out]; exact halt)
          cases e
          rw [Nat.zero_add] at hct
          have HagG := Lib.hid hag
          have HatT := Lib.hid hat2
          have hl1 := Hle.out a
          have hl2 := HleT.out a
          have hl3 := HS.out.rows a
          have hl4 := HTrow.out a
          have Hs1 := Lib.hid (lenTo_succ G a)
          have Hs3 := Lib.hid (lenTo_succ T a)
          obtain ⟨p, hp⟩ : ∃ p, p = (row G a).length := ⟨_, rfl⟩
          obtain ⟨q, hq⟩ : ∃ q, q = (row T a).length := ⟨_, rfl⟩
          obtain ⟨x, hx⟩ : ∃ x, x = lenTo G a := ⟨_, rfl⟩
          obtain ⟨y, hy⟩ : ∃ y, y = lenTo T a := ⟨_, rfl⟩
          rw [← hp] at hcg hl3 Hs1
          rw [← hq] at hct hl4 Hs3
          rw [← hx] at hl1 Hs1 ⊢
          rw [← hy] at hl2 Hs3 ⊢
          have Hp := Lib.hid hp
          have Hq := Lib.hid hq
          clear hag hat2 hp hq hx hy
          go_wp2
          go_loop [55] (fun sv => ∃ i : Nat, i ≤ q ∧ sv = .int .i64 i) (fun sv => q - (intOf sv).toNat)
          case atStart => exact ⟨0, Nat.zero_le _, rfl⟩
          case round =>
            obtain ⟨i, hile, rfl⟩ := hrel
            by_cases hilt : i < q
            · have hiT : i < (row T a).length := by rw [← Hq.out]; exact hilt
              obtain ⟨bb, ob, rfl, hcb⟩ := row_cell HatT.out (Ag.refl _ _) hiT
              have hed : G22.Edge G (row T a)[i] a := turned_to HT.out halt (List.getElem_mem hiT)
              have hlt := hed.lt
              have Hl := Lib.hid (leads_true Hs2.out hed)
              have Hso := Lib.hid (show ∀ j (hj : j < i), (row T a)[j]'(by omega) ≤ (row T a)[i] from fun j hj => by
                have hs := turnTo_sorted G a G.length
                have hr : row T a = turnTo G G.length a := by rw [HT.out]; exact row_turn halt
                rw [← hr] at hs
                exact List.pairwise_iff_getElem.1 hs j i (by omega) hiT hj)
              obtain ⟨b, hb⟩ : ∃ b, b = (row T a)[i] := ⟨_, rfl⟩
              rw [← hb] at hcb hlt Hl Hso
              clear hed hb
              have hb0 : decide ((b : Int) < 0) = false := by simp
              cases i with
              | zero =>
                have hcb0 : w2.cell? ⟨bb, ob, none⟩ = some (.int .i64 (b : Nat)) := hcb
                clear Hso hcb
                go_wp2_with (go_at_call 27; with_reducible refine Hl.out.mono ?_; rintro e w1 ⟨rfl, rfl⟩)
                go_round
                case rel => exact ⟨1, by omega, by go_num⟩
                case measure => simp [intOf]; omega
              | succ i =>
                have hiT1 : i < (row T a).length := by omega
                obtain ⟨_, _, e, hcb1⟩ := row_cell HatT.out (Ag.refl _ _) hiT1
                cases e
                have hle := Hso.out i (Nat.lt_succ_self _)
                obtain ⟨b1, hb1⟩ : ∃ b1, b1 = (row T a)[i] := ⟨_, rfl⟩
                rw [← hb1] at hcb1 hle
                have hsl : q ≤ 1200 := hl4
                have hcb' : w2.cell? ⟨bb, ob + (i + 1), none⟩ = some (.int .i64 (b : Nat)) := hcb
                rw [show ((i + 1 : Nat) : Int) = (i : Int) + 1 by omega]
                have hi0 : decide ((0 : Int) < (i : Int) + 1) = true := decide_eq_true (by omega)
                have hd1 : decide ((b : Int) < (b1 : Int)) = false := decide_eq_false (by omega)
                clear Hso hb1 hcb hiT hiT1
                go_wp2_with (go_at_call 27; with_reducible refine Hl.out.mono ?_; rintro e w1 ⟨rfl, rfl⟩)
                go_round
                case rel => exact ⟨i + 1 + 1, by omega, by go_num⟩
                case measure => simp [intOf]; omega
            · obtain rfl : i = q := by omega
              go_wp2
              go_loop [97] (fun sv => ∃ j : Nat, j ≤ p ∧ sv = .int .i64 j) (fun sv => p - (intOf sv).toNat)
              case atStart => exact ⟨0, Nat.zero_le _, rfl⟩
              case round =>
                obtain ⟨j, hjle, rfl⟩ := hrel
                by_cases hjlt : j < p
                · have hjG : j < (row G a).length := by rw [← Hp.out]; exact hjlt
                  obtain ⟨bb, ob, rfl, hcb⟩ := row_cell HagG.out (Ag.refl _ _) hjG
                  have hed : G22.Edge G a (row G a)[j] := List.getElem_mem hjG
                  have hlt : (row G a)[j] < G.length := HS.out.ok _ _ hed
                  have Hl := Lib.hid (leads_true HV2.out (turned_from HT.out hlt hed))
                  obtain ⟨b, hb⟩ : ∃ b, b = (row G a)[j] := ⟨_, rfl⟩
                  rw [← hb] at hcb hlt Hl
                  clear hed hb
                  go_wp2_with (go_at_call 27; with_reducible refine Hl.out.mono ?_; rintro e w1 ⟨rfl, rfl⟩)
                  go_round
                  case rel => exact ⟨j + 1, by omega, by go_num⟩
                  case measure => simp [intOf]; omega
                · obtain rfl : j = p := by omega
                  go_wp2
                  go_round
                  case rel => exact ⟨a + 1, by omega, by go_num, by rw [Hs1.out]; go_num, by rw [Hs3.out]; go_num⟩
                  case measure => simp [intOf]; omega
        · obtain rfl : a = G.length := by omega
          have Hlen := Lib.hid (show lenTo T G.length = lenTo G G.length by rw [HT.out]; exact lenTo_turn HS.out.ok)
          rw [Hlen.out]
          have hlb := Hle.out G.length
          obtain ⟨x, hx⟩ : ∃ x, x = lenTo G G.length := ⟨_, rfl⟩
          rw [← hx] at hlb ⊢
          have Htw := Lib.hid (Turned_any _ T w2 HV2.out (by rw [HT.out]; exact turn_ok G) (by rw [HTl.out]; omega) (fun a => Nat.le_trans (HTrow.out a) (by omega)))
          have HUl := Lib.hid (fun (a : Nat) (ha : a < G.length) => (show (row (turnG T) a).length = (row G a).length by rw [HT.out]; exact twice_length HS.out.ok ha))
          have HUe := Lib.hid (fun (a y : Nat) (ha : a < G.length) (hy : y < G.length) (h : G22.Edge G a y) => (show G22.Edge (turnG T) a y from turned_from rfl (by rw [HTl.out]; exact ha) (turned_from HT.out hy h)))
          clear hx Hlen Hle HleT
          go_wp2_with (go_at_call 18
                       with_reducible refine Htw.out.mono ?_
                       intro e w3 ht
                       obtain ⟨he, hv3, hb3⟩ := turn_read (by rw [HTl.out]; omega) ht
                       rw [HTl.out] at he hv3
                       subst he
                       have HV3 := Lib.hid hv3
                       have HB3 := Lib.hid (below_up HB2.out hb3)
                       have Hs3 := Lib.hid (RNatss.stable.up Hs2.out hb3)
                       clear ht hv3 hb3)
          obtain ⟨P, hP⟩ : ∃ P, P = w2.heap.size := ⟨_, rfl⟩
          rw [← hP] at HV3 ⊢
          clear hP
          obtain ⟨U, hU⟩ : ∃ U, U = turnG T := ⟨_, rfl⟩
          rw [← hU] at HUl HUe HV3
          have hUl : U.length = G.length := by rw [hU, turnG_length, HTl.out]
          obtain ⟨_, c3, e3, _, hatg⟩ := Hs3.out.open_
          cases e3
          have Hatg3 := Lib.hid hatg
          obtain ⟨_, cu, eu, _, hatu⟩ := HV3.out.open_
          rw [hUl] at eu
          cases eu
          have Hatu := Lib.hid hatu
          have HUlen := Lib.hid hUl
          clear hatg hatu hUl hU Htw Hatg Hatt
          go_loopw [112] (fun sv wr => ∃ a m : Nat, a ≤ G.length ∧ sv = .int .i64 a ∧ wr = w3.drewN m) (fun sv _ => G.length - (intOf sv).toNat)
          case atStart => exact ⟨0, 0, Nat.zero_le _, rfl, rfl⟩
          case round =>
            obtain ⟨a, m, hale, rfl, rfl⟩ := hrel
            by_cases halt : a < G.length
            · obtain ⟨bg, og, Ag2, cg, rfl, hcg, hag⟩ := row_cells Hatg3.out (Ag.refl _ _) halt
              obtain ⟨bu, ou, Au2, cu2, e, hcu, hau⟩ := row_cells Hatu.out (Ag.refl _ _) (a := a) (by rw [HUlen.out]; exact halt)
              cases e
              rw [Nat.zero_add] at hcu
              rw [HUl.out a halt] at hcu
              have HagG := Lib.hid hag
              have hpl := HS.out.rows a
              obtain ⟨p, hp⟩ : ∃ p, p = (row G a).length := ⟨_, rfl⟩
              rw [← hp] at hcg hcu hpl
              have Hp := Lib.hid hp
              have hdn : ((G.length : Int) != (G.length : Int)) = false := by simp
              have hdp : ((p : Int) != (p : Int)) = false := by simp
              clear hag hau hp
              go_wp2
              go_quiet (fail)
              rw [drewN_two]
              have hcg' : (w3.drewN (m + nq)).cell? ⟨bg, og + a, none⟩ = some (.slice Ag2 p cg) := hcg
              obtain ⟨w4, hw4⟩ : ∃ w4, w4 = w3.drewN (m + nq) := ⟨_, rfl⟩
              have HB4 := Lib.hid (show Ag (Lt w3.heap.size) w3 w4 by rw [hw4]; exact fun _ _ => rfl)
              have Hw4 := Lib.hid hw4
              rw [← hw4] at hcg' ⊢
              have HV4 := Lib.hid (RNatss.stable.agree HV3.out HB4.out)
              clear hw4 hcg hcu
              go_wp2
              go_loop [138] (fun sv => ∃ j : Nat, j ≤ p ∧ sv = .int .i64 j) (fun sv => p - (intOf sv).toNat)
              case atStart => exact ⟨0, Nat.zero_le _, rfl⟩
              case round =>
                obtain ⟨j, hjle, rfl⟩ := hrel
                by_cases hjlt : j < p
                · have hjG : j < (row G a).length := by rw [← Hp.out]; exact hjlt
                  obtain ⟨bb, ob, rfl, hcb⟩ := row_cell HagG.out HB4.out hjG
                  have hed : G22.Edge G a (row G a)[j] := List.getElem_mem hjG
                  have hlt : (row G a)[j] < G.length := HS.out.ok _ _ hed
                  have Hl := Lib.hid (leads_true HV4.out (HUe.out a (row G a)[j] halt hlt hed))
                  obtain ⟨b, hb⟩ : ∃ b, b = (row G a)[j] := ⟨_, rfl⟩
                  rw [← hb] at hcb hlt Hl
                  clear hed hb
                  go_wp2_with (go_at_call 27; with_reducible refine Hl.out.mono ?_; rintro e w1 ⟨rfl, rfl⟩)
                  go_round
                  case rel => exact ⟨j + 1, by omega, by go_num⟩
                  case measure => simp [intOf]; omega
                · obtain rfl : j = p := by omega
                  go_wp2
                  rw [Hw4.out]
                  go_roundw
                  case rel => exact ⟨a + 1, _, by omega, by go_num, rfl⟩
                  case measure => simp [intOf]; omega
            · obtain rfl : a = G.length := by omega
              go_wp2_with (go_at_call 11; refine (lives_in W _ (below_drewN HB3.out m)).mono ?_; rintro e w9 ⟨rfl, hb9⟩; have HB9 := Lib.hid hb9; clear hb9)
              go_ret
              exact ⟨rfl, HB9.out⟩
end Go.Proofs.Ytjmenkjmghmkpaa
