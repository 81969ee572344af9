/- graph.Cycle. -/
import Derived.Test.YtjmenkjmghmkpaaGrW7
namespace Go.Proofs.Ytjmenkjmghmkpaa
open Go.RowKit
open G22

def CyclePost (G : Gr) (w : World) (e : Ending) (w' : World) : Prop :=
  ∃ v, e = .returned v ∧ RNats w' (Lt w'.heap.size) v (cycG G) ∧ Below w.heap.size w w'
set_option maxHeartbeats 400000 in
theorem Cycle_no (s : Value) (g : List (List Int)) (w : World) {B : Nat} (hs : RIntss w (Lt B) s g) (h : mayG g = false) :
    Calls Try.prog 20 #[s] w fun e w' => e = .returned (.slice none 0 0) ∧ w = w' := by
  have Hs := Lib.hid hs
  have Hm := Lib.hid h
  clear h hs
  go_enter Try.func20, Try.ntmps20
  go_wp2_with (first
    | (go_at_call 12; refine (May_any _ _ _ Hs.out).mono ?_; rintro e w1 ⟨rfl, rfl⟩; rw [Hm.out]))
  go_ret
  exact ⟨rfl, rfl⟩
theorem bestOf_eq {G : Gr} {n : Nat} {d : List Int} (h : IsDepth G n d) : bestOf G n = bestL d (turnTo G G.length n) := by
  rw [bestL_turn, depthOf_eq h]; rfl
theorem bestL_lt {d : List Int} {l : List Nat} {N : Nat} (h : ∀ x ∈ l, x < N) : ∀ j, -1 ≤ bestL d (l.take j) ∧ bestL d (l.take j) < (N : Int) := by
  intro j
  induction j with
  | zero => simp [bestL]; omega
  | succ j ih =>
    rcases Nat.lt_or_ge j l.length with hj | hj
    · rw [List.take_succ_eq_append_getElem hj, bestL_snoc]
      have := h _ (List.getElem_mem hj)
      exact ⟨stepB_ge ih.1, by unfold stepB; split <;> omega⟩
    · rw [List.take_of_length_le (by omega)]
      rw [List.take_of_length_le hj] at ih
      exact ih
set_option maxRecDepth 100000 in
set_option maxHeartbeats 2000000 in
theorem Cycle_any (s : Value) (G : Gr) (w : World) (hs : RNatss w (Lt w.heap.size) s G) (hG : okG G) (hn : G.length ≤ 100000) (hr : ∀ a, (row G a).length ≤ 100000) :
    Calls Try.prog 20 #[s] w (CyclePost G w) := by
  have Hi := Lib.hid (intss_of_natss hs)
  have Hs := Lib.hid hs
  have HG := Lib.hid hG
  have Hr := Lib.hid hr
  have Hm := Lib.hid (mayG_of hG)
  have Ht := Lib.hid (Turned_any s G w hs hG hn hr)
  obtain ⟨A, c, rfl, hm, hat⟩ := hs.open_
  clear hs hG hr hat
  go_enter Try.func20, Try.ntmps20
  go_wp2_with (first
    | (go_at_call 12; refine (May_any _ _ _ Hi.out).mono ?_; rintro e w1 ⟨rfl, rfl⟩; rw [Hm.out])
    | (go_at_call 18; refine Ht.out.mono ?_; rintro e w1 ⟨vs, rfl, hT, hB⟩))
  have HT := Lib.hid hT
  have HB := Lib.hid hB
  have hTl := hT.blk.lt
  clear hT hB Ht
  generalize hTT : w.heap.size = T at *
  have HTT := Lib.hid hTT
  clear hTT
  go_loopw [16] (fun sv wr => ∃ n : Nat, n ≤ G.length ∧ sv = .int .i64 n ∧ Hid (∀ m, m < n → bestOf G m < 0) ∧ Hid (Below w1.heap.size w1 wr)) (fun sv _ => G.length - (intOf sv).toNat)
  case atStart => exact ⟨0, Nat.zero_le _, rfl, fun m hm => absurd hm (Nat.not_lt_zero _), Below.refl _ _⟩
  case round =>
    obtain ⟨w2, rfl⟩ : ∃ w0 : World, w0 = wr := ⟨_, rfl⟩
    obtain ⟨n, hnle, rfl, Hb, HB2⟩ := hrel
    by_cases hnlt : n < G.length
    · have HT2 := Lib.hid (HT.out.up HB2.out)
      have hnl2 : n < (turnG G).length := by rw [turnG_length]; exact hnlt
      obtain ⟨Ar, cr, hvr, hcr, hor⟩ := HT2.out.row hnl2
      have her : (turnG G)[n] = turnTo G G.length n := by rw [← row_at hnl2, row_turn hnlt]
      rw [her] at hcr hor
      have Hrow := Lib.hid (nats_of_own hor (own_lt hor))
      obtain ⟨R, hR⟩ : ∃ R, R = turnTo G G.length n := ⟨_, rfl⟩
      have HRm := Lib.hid (show ∀ x ∈ R, x < G.length by intro x hx; rw [hR] at hx; exact (mem_turnTo.1 hx).1)
      have HRe := Lib.hid hR
      rw [← hR] at hcr Hrow
      have hrl : R.length ≤ 10000000000 := by
        rw [hR]
        have h1 := turnTo_le (n := G.length) (b := n) Hr.out
        have h2 : G.length * 100000 ≤ 10000000000 := by omega
        omega
      clear hvr hor her hR hnl2
      obtain ⟨A2, c2, eA, hm2, hat2⟩ := Hrow.out.open_
      cases eA
      by_cases h0 : R = []
      · have hz : R.length = 0 := by rw [h0]; rfl
        have hzb : ((R.length : Int) == 0) = true := by rw [hz]; rfl
        have Hb2 := Lib.hid (show ∀ m, m < n + 1 → bestOf G m < 0 by
          intro m hm
          rcases Nat.lt_or_ge m n with h1 | h1
          · exact Hb.out m h1
          · obtain rfl : m = n := by omega
            show bestTo G (depthOf G m) m G.length < 0
            rw [← bestL_turn, ← HRe.out, h0]; simp [bestL])
        clear h0 hz hat2
        go_wp2
        go_roundw
        case rel => exact ⟨n + 1, by omega, by go_num, Hb2.out, HB2.out⟩
        case measure => simp [intOf]; omega
      · have hz : 0 < R.length := List.length_pos_iff.2 h0
        have hzb : ((R.length : Int) == 0) = false := by simp; omega
        have Hat2 := Lib.hid hat2
        have Hd := Lib.hid (Depth_any (.slice A G.length c) G n w2 (RNatss.stable.sub (RNatss.stable.below Hs.out (HB.out.trans (HB2.out.mono (Nat.le_of_lt hTl)))) (fun b (hb : b < T) => (by have := HB2.out.size; show b < w2.heap.size; omega))) HG.out hnlt (by omega))
        clear h0 hat2
        go_wp2_with (go_at_call 15; refine Hd.out.mono ?_; rintro e w3 ⟨d, hdep, rfl, hV, hB3⟩; have hcr3 := (hB3.cell (p := ⟨T, n, none⟩) (by show T < w2.heap.size; have := HB2.out.size; omega)).trans hcr)
        have Hdep := Lib.hid hdep
        have HV := Lib.hid hV
        have HB3 := Lib.hid hB3
        have Hlt := Lib.hid (bestL_lt (d := d) HRm.out)
        have hdl : d.length = G.length := hdep.1
        have Hdl := Lib.hid hdl
        have Hbe := Lib.hid ((bestOf_eq hdep).trans (by rw [← HRe.out] : _ = bestL d R))
        have HRr := Lib.hid (fun j (hj : j < R.length) => (Hat2.out.at_ RNat.stable (ag_of_below hB3) hj))
        have hT2 : T < w2.heap.size := by have := HB2.out.size; omega
        have hD3 : w2.heap.size < w3.heap.size := hV.lt
        clear hdep hV hB3 hcr Hd hdl
        generalize hDD : w2.heap.size = D at *
        have hD1 : w1.heap.size ≤ D := by rw [← hDD]; exact HB2.out.size
        clear hDD
        go_wp2
        go_loopw [33, 5] (fun sv bv wr => ∃ j : Nat, j ≤ R.length ∧ sv = .int .i64 j ∧ bv = .int .i64 (bestL d (R.take j)) ∧ ∃ m, wr = w3.drewN m) (fun sv _ _ => R.length - (intOf sv).toNat)
        case atStart => exact ⟨0, Nat.zero_le _, rfl, rfl, 0, rfl⟩
        case round =>
          obtain ⟨j, hjle, rfl, rfl, m, rfl⟩ := hrel
          obtain ⟨hb1, hb2⟩ := Hlt.out j
          by_cases hjlt : j < R.length
          · obtain ⟨b6, o6, u6, rfl, hb6, hc6, hu6⟩ := HRr.out j hjlt
            obtain rfl := hu6
            unfold natV at hc6
            have hk : R[j] < G.length := HRm.out _ (List.getElem_mem hjlt)
            have hkd : R[j] < d.length := by rw [Hdl.out]; exact hk
            have hck := HV.out.int hkd
            have hdk : dd d R[j] = d[R[j]] := by simp [dd, List.getD, hkd]
            have Hs2 := Lib.hid (show bestL d (R.take (j + 1)) = stepB d (bestL d (R.take j)) R[j] by rw [List.take_succ_eq_append_getElem hjlt, bestL_snoc])
            obtain ⟨k, hkk⟩ : ∃ k, k = R[j] := ⟨_, rfl⟩
            obtain ⟨x, hxx⟩ : ∃ x, x = d[R[j]] := ⟨_, rfl⟩
            rw [← hxx] at hck hdk
            rw [← hkk] at hc6 hk hck hdk Hs2
            clear hxx hkd hkk hb6
            unfold stepB at Hs2
            rw [hdk] at Hs2
            clear hdk
            generalize bestL d (R.take j) = b at *
            by_cases hx : 0 ≤ x
            case neg =>
              rw [if_neg (fun h => hx h.1)] at Hs2
              have hbd : decide (0 ≤ x) = false := by simpa using hx
              go_wp2
              go_quiet (fail)
              go_wp2
              go_roundw
              case rel => exact ⟨j + 1, by omega, by go_num, by rw [Hs2.out], _, rfl⟩
              case measure => simp [intOf]; omega
            case pos =>
              have hbd : decide (0 ≤ x) = true := by simpa using hx
              by_cases hb : b < 0
              case pos =>
                rw [if_pos ⟨hx, .inl hb⟩] at Hs2
                have hbd2 : decide (b < 0) = true := by simpa using hb
                go_wp2
                go_quiet (fail)
                go_wp2
                go_roundw
                case rel => exact ⟨j + 1, by omega, by go_num, by rw [Hs2.out], _, rfl⟩
                case measure => simp [intOf]; omega
              case neg =>
                have hbd2 : decide (b < 0) = false := by simpa using hb
                obtain ⟨bn, rfl⟩ := Int.eq_ofNat_of_zero_le (show 0 ≤ b by omega)
                have hbn : bn < d.length := by rw [Hdl.out]; omega
                have hcb := HV.out.int hbn
                have hdb : dd d bn = d[bn] := by simp [dd, List.getD, hbn]
                obtain ⟨y, hyy⟩ : ∃ y, y = d[bn] := ⟨_, rfl⟩
                rw [← hyy] at hcb hdb
                rw [Int.toNat_natCast, hdb] at Hs2
                clear hyy hdb hbn
                by_cases hxy : x < y
                · rw [if_pos ⟨hx, .inr hxy⟩] at Hs2
                  have hbd3 : decide (x < y) = true := by simpa using hxy
                  go_wp2
                  go_quiet (fail)
                  go_wp2
                  go_roundw
                  case rel => exact ⟨j + 1, by omega, by go_num, by rw [Hs2.out], _, rfl⟩
                  case measure => simp [intOf]; omega
                · rw [if_neg (fun h => by rcases h.2 with h | h <;> omega)] at Hs2
                  have hbd3 : decide (x < y) = false := by simpa using hxy
                  go_wp2
                  go_quiet (fail)
                  go_wp2
                  go_roundw
                  case rel => exact ⟨j + 1, by omega, by go_num, by rw [Hs2.out], _, rfl⟩
                  case measure => simp [intOf]; omega
          · obtain rfl : j = R.length := by omega
            rw [List.take_length] at hb1 hb2 ⊢
            have HBT := Lib.hid (show Below T w w3 from HB.out.trans ((HB2.out.trans (HB3.out.mono hD1)).mono (Nat.le_of_lt hTl)))
            have Hbe2 := Lib.hid (Hbe.out.symm)
            generalize bestL d R = b at *
            by_cases hb : 0 ≤ b
            · obtain ⟨bn, rfl⟩ := Int.eq_ofNat_of_zero_le hb
              have Hp := Lib.hid (fun m => Path_any (.slice A G.length c) G n bn (w3.drewN m) (RNatss.stable.sub (RNatss.stable.below Hs.out (below_drewN HBT.out m)) (fun b (hb : b < T) => (by show b < w3.heap.size; omega))) HG.out hnlt (by omega) hn Hr.out)
              go_wp2_with (go_at_call 16; refine (Hp.out m).mono ?_; rintro e w5 ⟨d5, v5, hdep5, rfl, hr5, hB5⟩)
              go_ret
              refine ⟨v5, rfl, ?_, ?_⟩
              · rw [cycG_hit hnlt (by rw [← Hbe2.out]; exact hb) Hb.out, ← Hbe2.out, Int.toNat_natCast, ← depthOf_eq hdep5]
                exact hr5
              · rw [HTT.out]
                exact (below_drewN HBT.out m).trans (hB5.mono (by show T ≤ w3.heap.size; omega))
            · have Hb2 := Lib.hid (show ∀ m, m < n + 1 → bestOf G m < 0 by
                intro m hm
                rcases Nat.lt_or_ge m n with h1 | h1
                · exact Hb.out m h1
                · obtain rfl : m = n := by omega
                  rw [← Hbe2.out]; omega)
              go_wp2
              go_roundw
              case rel => exact ⟨n + 1, by omega, by go_num, Hb2.out, below_drewN (HB2.out.trans (HB3.out.mono hD1)) m⟩
              case measure => simp [intOf]; omega
    · obtain rfl : n = G.length := by omega
      have Hnil := Lib.hid (cycG_none Hb.out)
      go_wp2
      go_ret
      refine ⟨_, rfl, by rw [Hnil.out]; exact RSl.nil_ _ _ _, ?_⟩
      rw [HTT.out]
      exact HB.out.trans (HB2.out.mono (Nat.le_of_lt hTl))
end Go.Proofs.Ytjmenkjmghmkpaa
