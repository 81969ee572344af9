/- GraphOrders: the law, walked. -/
import Derived.Test.YtjmenkjmghmkpaaGrO2
import Derived.Test.YtjmenkjmghmkpaaGrK0
namespace Go.Proofs.Ytjmenkjmghmkpaa
open Go.RowKit
open G22

def doneL (N : Nat) (O : List Nat) (i : Nat) : List Bool := (List.range N).map fun x => decide (x ∈ O.take i)
theorem doneL_length (N : Nat) (O : List Nat) (i : Nat) : (doneL N O i).length = N := by simp [doneL]
theorem doneL_zero (N : Nat) (O : List Nat) : doneL N O 0 = List.replicate N false := by
  refine List.ext_getElem (by simp [doneL]) fun i h1 h2 => ?_
  simp [doneL]
theorem doneL_get {N : Nat} {O : List Nat} {i x : Nat} (hx : x < N) : gB (doneL N O i) x = decide (x ∈ O.take i) := by
  unfold gB doneL List.getD
  simp [hx]
theorem doneL_step {N : Nat} {O : List Nat} {i : Nat} (hi : i < O.length) : (doneL N O i).set O[i] true = doneL N O (i + 1) := by
  refine List.ext_getElem (by simp [doneL]) fun x h1 h2 => ?_
  rw [List.getElem_set]
  simp only [doneL, List.getElem_map, List.getElem_range]
  have hm : x ∈ O.take (i + 1) ↔ x ∈ O.take i ∨ x = O[i] := by rw [List.take_succ_eq_append_getElem hi, List.mem_append, List.mem_singleton]
  split
  · next e => rw [eq_comm, decide_eq_true_eq, hm]; exact .inr e.symm
  · next e =>
    rw [Bool.eq_iff_iff, decide_eq_true_eq, decide_eq_true_eq, hm]
    exact ⟨fun h => .inl h, fun h => h.elim id fun h => absurd h.symm e⟩
theorem refCycle_same {G : Gr} {s v3 : Value} {w : World} (hs : RNatss w (Lt w.heap.size) s G) (hG : okG G) (hn : G.length ≤ 100000) (hv : RNats w (Lt w.heap.size) v3 (cycG G)) :
    Calls Try.prog 26 #[s] w fun e w4 => ∃ v4, e = .returned v4 ∧ Below w.heap.size w w4 ∧ Calls Try.prog 22 #[v3, v4] w4 fun e w' => e = .returned (.bool true) ∧ ∃ n, w' = w4.drewN n :=
  (refCycle_any s G w hs hG hn).mono fun _ _ ⟨v4, he, hv4, hb4⟩ => ⟨v4, he, hb4, same_true (RNats.stable.up hv hb4) hv4⟩
theorem order_free {G : Gr} {L : List (List Nat)} (hG : okG G) (h : Picks G (fun _ => False) L) (hok : L.all (okB G) = true) {i : Nat} (hi : i < (L.map hd).length) :
    (L.map hd)[i] < G.length ∧ ∀ k, k ≤ (L.map hd)[i] → freeK G (doneL G.length (L.map hd) i) k G.length = decide (k = (L.map hd)[i]) := by
  have hr := (round_iff hG h).1 hok
  obtain ⟨g1, g2⟩ := order_spec hr h (List.all_eq_true.1 hok) (fun _ _ _ h => h) i hi
  have e : (L.map hd).getD i 0 = (L.map hd)[i] := by unfold List.getD; rw [List.getElem?_eq_getElem hi]; rfl
  rw [e] at g1 g2
  refine ⟨g1, fun k hk => ?_⟩
  rw [Bool.eq_iff_iff, freeK_iff, decide_eq_true_eq, ← g2 k hk]
  have hlt : ∀ x ∈ L.map hd, x < G.length := fun x hx => by
    obtain ⟨l, hl, rfl⟩ := List.mem_map.1 hx
    exact (h.top.2 l hl).2.1
  have : (fun x => gB (doneL G.length (L.map hd) i) x = true) = (fun x => False ∨ x ∈ (L.map hd).take i) := funext fun x => propext (by
    by_cases hx : x < G.length
    · rw [doneL_get hx]; simp
    · have h1 : gB (doneL G.length (L.map hd) i) x = false := by unfold gB List.getD; rw [List.getElem?_eq_none (by rw [doneL_length]; omega)]; rfl
      rw [h1]
      constructor
      · intro h; cases h
      · rintro (h | h)
        · exact h.elim
        · exact absurd (hlt x (List.mem_of_mem_take h)) hx)
  rw [this]
set_option maxRecDepth 100000 in
set_option maxHeartbeats 2000000 in
theorem walk_GraphOrders (W : World) (v0 : Value) (a0 : Arg Try.prog W 22 v0) : Calls Try.prog 6 #[v0] W fun e W' => e = .returned (.bool true) ∧ Below W.heap.size W W' := by
  obtain ⟨g, hg⟩ := arg_graph a0
  obtain ⟨A, c, rfl, hm, _⟩ := hg.open_
  have Hg := Lib.hid hg
  have Hli := Lib.hid (light_any _ g W hg)
  have Hma := Lib.hid (refMay_any _ g W hg)
  have Hlv := Lib.hid (lives_in W W (Below.refl _ _))
  clear hg
  cases hl : lightG g with
  | false =>
    rw [hl] at Hli
    clear hl
    go_enter Try.func6, Try.ntmps6
    go_wp2_with (first
      | (go_at_call 10; with_reducible refine Hli.out.mono ?_; rintro e w1 ⟨rfl, rfl⟩)
      | (go_at_call 13; with_reducible refine Hma.out.mono ?_; rintro e w1 ⟨rfl, rfl⟩)
      | (go_at_call 11; with_reducible refine Hlv.out.mono ?_; rintro e w2 ⟨rfl, hb⟩; have HB := Lib.hid hb; clear hb))
    go_ret
    exact ⟨rfl, HB.out⟩
  | true =>
    rw [hl] at Hli
    cases hmy : mayG g with
    | false =>
      rw [hmy] at Hma
      clear hl hmy
      go_enter Try.func6, Try.ntmps6
      go_wp2_with (first
        | (go_at_call 10; with_reducible refine Hli.out.mono ?_; rintro e w1 ⟨rfl, rfl⟩)
        | (go_at_call 13; with_reducible refine Hma.out.mono ?_; rintro e w1 ⟨rfl, rfl⟩)
        | (go_at_call 11; with_reducible refine Hlv.out.mono ?_; rintro e w2 ⟨rfl, hb⟩; have HB := Lib.hid hb; clear hb))
      go_ret
      exact ⟨rfl, HB.out⟩
    | true =>
      obtain ⟨G, rfl, hS⟩ := small_of hl hmy
      have HS := Lib.hid hS
      have Hs := Lib.hid (natss_of_intss Hg.out)
      rw [hmy] at Hma
      rw [List.length_map] at *
      clear hl hmy hS
      have hGl : G.length ≤ 30 := HS.out.len
      clear Hlv
      have Hco := Lib.hid (cycG_nil HS.out.ok)
      obtain ⟨C, hC⟩ : ∃ C, C = cycG G := ⟨_, rfl⟩
      have HC := Lib.hid hC
      have Hord := Lib.hid (Order_any G W A c Hs.out HS.out.ok (by omega) HS.out.rows')
      have Hsplit : Calls Try.prog 17 #[.slice A G.length c] W fun e w' => ∃ (b : Bool) (L2 : List (List Nat)) (v2 : Value), e = .returned (.tuple #[v2, .bool b]) ∧ Picks G (fun _ => False) L2 ∧ Below W.heap.size W w' ∧ L2.all (okB G) = b ∧ (b = true → RNats w' (Lt w'.heap.size) v2 (L2.map hd)) ∧ (b = false → v2 = .slice none 0 0) :=
        Hord.out.mono fun e w' ⟨v2, L2, hp, hb, ho⟩ => by
          rcases ho with ⟨h1, rfl, h2⟩ | ⟨h1, rfl⟩
          · exact ⟨true, L2, v2, rfl, hp, hb, h1, (fun _ => h2), (fun h => by cases h)⟩
          · exact ⟨false, L2, _, rfl, hp, hb, h1, (fun h => by cases h), (fun _ => rfl)⟩
      have HO := Lib.hid Hsplit
      clear Hord Hsplit hC
      go_enter Try.func6, Try.ntmps6
      go_upto_region 5 with (first
        | (go_at_call 10; with_reducible refine Hli.out.mono ?_; rintro e w1 ⟨rfl, rfl⟩)
        | (go_at_call 13; with_reducible refine Hma.out.mono ?_; rintro e w1 ⟨rfl, rfl⟩)
        | (go_at_call 17
           with_reducible refine HO.out.mono ?_
           rintro e w2 ⟨b, L2, v2, rfl, hp2, hb2, hall, ht, hff⟩
           have HP2 := Lib.hid hp2
           have HB2 := Lib.hid hb2
           have Hs2 := Lib.hid (RNatss.stable.up Hs.out hb2)
           have Hall := Lib.hid hall
           have Ht := Lib.hid ht
           have Hff := Lib.hid hff
           have HbC := Lib.hid (show b = decide (C.length = 0) by
             have h1 := round_iff HS.out.ok hp2
             rw [← Hco.out, ← HC.out, hall] at h1
             rw [Bool.eq_iff_iff, h1, decide_eq_true_eq]
             exact List.length_eq_zero_iff.symm)
           clear hp2 hb2 hall ht hff HO)
        | (go_at_call 20
           refine (Cycle_any _ G w2 Hs2.out HS.out.ok (by omega) HS.out.rows').mono ?_
           rintro e w3 ⟨v3, rfl, hv3, hb3⟩
           have hrc := refCycle_same (RNatss.stable.up Hs2.out hb3) HS.out.ok (by omega) hv3
           rw [← HC.out] at hv3
           obtain ⟨A3, c3, rfl, hm3, _⟩ := hv3.open_
           have HV3 := Lib.hid hv3
           have HB3 := Lib.hid (below_up HB2.out hb3)
           have HB23 := Lib.hid hb3
           have Hs3 := Lib.hid (RNatss.stable.up Hs2.out hb3)
           have Hrc := Lib.hid hrc
           clear hv3 hb3 hrc))
      cases b with
      | false =>
        have hCl : ¬ C.length = 0 := by have := HbC.out; simpa using this
        obtain rfl := Hff.out rfl
        go_wp2_with (first
          | (go_at_call 26; with_reducible refine Hrc.out.mono ?_; rintro e w4 ⟨v4, rfl, hb4, hsa⟩; have HB4 := Lib.hid (below_up HB3.out hb4); have Hsa := Lib.hid hsa; clear hb4 hsa)
          | (go_at_call 22; with_reducible refine Hsa.out.mono ?_; rintro e w5 ⟨rfl, n5, rfl⟩)
          | (go_at_call 11; refine (lives_in W _ (below_drewN HB4.out n5)).mono ?_; rintro e w6 ⟨rfl, hb6⟩; have HB6 := Lib.hid hb6; clear hb6))
        go_ret
        exact ⟨rfl, HB6.out⟩
      | true =>
        have hCl : C.length = 0 := by have := HbC.out; simpa using this.symm
        have Hv2 := Lib.hid (Ht.out rfl)
        obtain ⟨A2, c2, rfl, hm2, _⟩ := Hv2.out.open_
        have Hlen := Lib.hid (order_length HP2.out (List.all_eq_true.1 Hall.out))
        have Hfree := Lib.hid (fun (i : Nat) (hi : i < (L2.map hd).length) => order_free HS.out.ok HP2.out Hall.out hi)
        rw [List.length_map] at *
        have hLl : L2.length = G.length := Hlen.out
        rw [hCl] at Hrc
        have hmk := run_makeBools G.length (by omega)
        go_upto_region 9 with (first
          | (go_at_call 26; with_reducible refine Hrc.out.mono ?_; rintro e w4 ⟨v4, rfl, hb4, hsa⟩; have HB4 := Lib.hid (below_up HB3.out hb4); have HB24 := Lib.hid (below_up HB23.out hb4); have Hsa := Lib.hid hsa; clear hb4 hsa)
          | (go_at_call 22; with_reducible refine Hsa.out.mono ?_; rintro e w5 ⟨rfl, n5, rfl⟩))
        have HB5 := Lib.hid (below_drewN HB4.out n5)
        have HB25 := Lib.hid (below_drewN HB24.out n5)
        generalize w4.drewN n5 = w5 at *
        go_wp2
        obtain ⟨O, hO⟩ : ∃ O, O = L2.map hd := ⟨_, rfl⟩
        have hOl : O.length = G.length := by rw [hO, List.length_map]; exact hLl
        rw [← hO] at Hv2 Hfree
        rw [hLl] at Hv2
        have HOl := Lib.hid hOl
        have HV0 := Lib.hid (show VBlk (w5.alloc (.cells (madeCells #[.bool false] G.length) 4)) w5.heap.size 4 (bVs (doneL G.length O 0)) by
          have := vblk_made w5 4 (.bool false) G.length
          rw [doneL_zero]
          unfold bVs
          rwa [List.map_replicate])
        have HB6 := Lib.hid (HB5.out.alloc HB5.out.size (.cells (madeCells #[.bool false] G.length) 4))
        have HB26 := Lib.hid (HB25.out.alloc HB25.out.size (.cells (madeCells #[.bool false] G.length) 4))
        have Hs6 := Lib.hid (RNatss.stable.below Hs.out HB6.out)
        obtain ⟨bD, hbD⟩ : ∃ bD, bD = w5.heap.size := ⟨_, rfl⟩
        rw [← hbD] at HV0 ⊢
        have hb2 : w2.heap.size ≤ bD := by rw [hbD]; exact HB25.out.size
        have hbW : W.heap.size ≤ bD := Nat.le_trans HB2.out.size hb2
        clear hO hmk hLl hbD hCl Hrc Hsa HV3 HB3 HB23 HB4 HB24 HB5 HB25 hOl
        generalize w5.alloc (.cells (madeCells #[.bool false] G.length) 4) = w6 at *
        have Hv6 := Lib.hid (RNats.stable.below Hv2.out HB26.out)
        obtain ⟨_, _, eA, _, hat6⟩ := Hv6.out.open_
        rw [HOl.out] at eA
        cases eA
        have Hat6 := Lib.hid hat6
        clear hat6
        go_loopw [53] (fun sv wr => ∃ i : Nat, i ≤ G.length ∧ sv = .int .i64 i ∧ Hid (VBlk wr bD 4 (bVs (doneL G.length O i))) ∧ Hid (At1 bD w6 wr)) (fun sv _ => G.length - (intOf sv).toNat)
        case atStart => exact ⟨0, Nat.zero_le _, rfl, HV0.out, At1.refl _ _⟩
        case round =>
          obtain ⟨w7, rfl⟩ : ∃ w0 : World, w0 = wr := ⟨_, rfl⟩
          obtain ⟨i, hile, rfl, HV7, HA7⟩ := hrel
          by_cases hilt : i < G.length
          · have hiO : i < O.length := by rw [HOl.out]; exact hilt
            obtain ⟨b2, o2, u2, rfl, hb2', hci, hu2⟩ := Hat6.out.at_ RNat.stable (HA7.out.ag (S := Lt w2.heap.size) fun j (hj : j < w2.heap.size) => by omega) hiO
            obtain rfl := hu2
            unfold natV at hci
            obtain ⟨hnG, hfr⟩ := Hfree.out i hiO
            have Hst := Lib.hid (doneL_step (N := G.length) hiO)
            obtain ⟨n, hn⟩ : ∃ n, n = O[i] := ⟨_, rfl⟩
            rw [← hn] at hci hnG Hst
            have Hfr := Lib.hid (show ∀ k, k ≤ n → freeK G (doneL G.length O i) k G.length = decide (k = n) by rw [hn]; exact hfr)
            have Hs7 := Lib.hid (RNatss.stable.agree Hs6.out (HA7.out.ag (S := Lt W.heap.size) fun j (hj : j < W.heap.size) => by omega))
            clear hn hfr hb2'
            go_wp2
            go_loop [9] (fun sv => ∃ k : Nat, k ≤ n + 1 ∧ sv = .int .i64 k) (fun sv => n + 1 - (intOf sv).toNat)
            case atStart => exact ⟨0, Nat.zero_le _, rfl⟩
            case round =>
              obtain ⟨k, hkle, rfl⟩ := hrel
              by_cases hkn : k ≤ n
              · have hkG : k < G.length := by omega
                have hck := HV7.out.bool (i := k) (by rw [doneL_length]; exact hkG)
                rw [show (doneL G.length O i).getD k false = gB (doneL G.length O i) k from rfl] at hck
                go_wp2
                go_loop [75, 10] (fun sv v10 => ∃ a : Nat, a ≤ G.length ∧ sv = .int .i64 a ∧ v10 = .bool (freeK G (doneL G.length O i) k a)) (fun sv _ => G.length - (intOf sv).toNat)
                case atStart => exact ⟨0, Nat.zero_le _, rfl, by rw [freeK_zero]⟩
                case round =>
                  obtain ⟨a, hale, rfl, rfl⟩ := hrel
                  by_cases halt : a < G.length
                  · have Hs := Lib.hid (freeK_succ G (doneL G.length O i) k a)
                    have hca := HV7.out.bool (i := a) (by rw [doneL_length]; exact halt)
                    rw [show (doneL G.length O i).getD a false = gB (doneL G.length O i) a from rfl] at hca
                    cases hf : freeK G (doneL G.length O i) k a with
                    | false =>
                      rw [hf, Bool.false_and] at Hs
                      clear hf hca
                      go_wp2
                      go_round
                      case rel => exact ⟨a + 1, by omega, by go_num, by rw [Hs.out]⟩
                      case measure => simp [intOf]; omega
                    | true =>
                      rw [hf, Bool.true_and] at Hs
                      clear hf
                      cases hda : gB (doneL G.length O i) a with
                      | true =>
                        rw [hda] at hca Hs
                        clear hda
                        go_wp2
                        go_round
                        case rel => exact ⟨a + 1, by omega, by go_num, by rw [Hs.out]; rfl⟩
                        case measure => simp [intOf]; omega
                      | false =>
                        rw [hda, Bool.false_or] at Hs
                        rw [hda] at hca
                        clear hda
                        have Hl := Lib.hid (Leads_any _ G a k w7 Hs7.out halt)
                        obtain ⟨z, hz⟩ : ∃ z, z = leads G a k := ⟨_, rfl⟩
                        rw [← hz] at Hs Hl
                        clear hz
                        go_wp2_with (go_at_call 27; with_reducible refine Hl.out.mono ?_; rintro e w1 ⟨rfl, rfl⟩)
                        go_round
                        case rel => exact ⟨a + 1, by omega, by go_num, by rw [Hs.out]⟩
                        case measure => simp [intOf]; omega
                  · obtain rfl : a = G.length := by omega
                    have hfk := Hfr.out k hkn
                    rw [hfk]
                    by_cases h : k = n
                    · subst h
                      rw [decide_eq_true rfl]
                      clear hfk hck
                      go_wp2
                      go_round
                      case rel => exact ⟨k + 1, by omega, by go_num⟩
                      case measure => simp [intOf] <;> omega
                    · rw [decide_eq_false h]
                      have hkb : ((k : Int) == (n : Int)) = false := by rw [beq_eq_false_iff_ne]; omega
                      clear hfk hck
                      go_wp2
                      go_round
                      case rel => exact ⟨k + 1, by omega, by go_num⟩
                      case measure => simp [intOf]; omega
              · have hcd := HV7.out.bool (i := n) (by rw [doneL_length]; exact hnG)
                have hfd := HV7.out.frozen n
                have HV8 := Lib.hid (HV7.out.setBool n true)
                rw [Hst.out] at HV8
                have HA8 := Lib.hid (HA7.out.trans (at1_set w7 bD n (.bool true)))
                clear HV7 HA7 hci
                go_wp2
                go_roundw
                case rel => exact ⟨i + 1, by omega, by go_num, HV8.out, HA8.out⟩
                case measure => simp [intOf]; omega
          · obtain rfl : i = G.length := by omega
            have HB8 := Lib.hid (HB6.out.trans (HA7.out.below hbW))
            go_wp2_with (go_at_call 11; refine (lives_in W _ HB8.out).mono ?_; rintro e w9 ⟨rfl, hb9⟩; have HB9 := Lib.hid hb9; clear hb9)
            go_ret
            exact ⟨rfl, HB9.out⟩
end Go.Proofs.Ytjmenkjmghmkpaa
