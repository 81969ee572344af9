/- Path of the document's answer. -/
import Derived.Test.YtjmenkjmghmkpaaGrW6
import Derived.Test.YtjmenkjmghmkpaaGrW7
import Derived.Test.YtjmenkjmghmkpaaGrW2
namespace Go.Proofs.Ytjmenkjmghmkpaa
open Go.RowKit
open G22

theorem RInts.at_nat {w w' : World} {S : Nat → Prop} {b o : Nat} {l : List Int} (h : RAt RInt w S (some ⟨b, o, none⟩) l) (ha : Ag S w w') {k : Nat} (hk : k < l.length) : w'.cell? ⟨b, o + k, none⟩ = some (.int .i64 l[k]) := by
  obtain ⟨b', o', u, e, _, hc, hu⟩ := h.at_ RInt.stable ha hk
  cases e
  obtain rfl := hu
  exact hc
set_option maxRecDepth 100000 in
set_option maxHeartbeats 2000000 in
theorem refPath_any (s : Value) (G : Gr) (a b : Nat) (w : World) (hs : RNatss w (Lt w.heap.size) s G) (hG : okG G) (ha : a < G.length) (hb : b < G.length) (hn : G.length ≤ 100000) :
    Calls Try.prog 23 #[s, .int .i64 a, .int .i64 b] w (PathPost G a b w) := by
  have Hd := Lib.hid (refDepth_any s G a w hs hG ha (by omega))
  have HG := Lib.hid hG
  have Hs := Lib.hid hs
  obtain ⟨A, c, rfl, _, hatg⟩ := hs.open_
  clear hatg
  clear hG hs
  go_enter Try.func23, Try.ntmps23
  go_wp2_with (go_at_call 21; refine Hd.out.mono ?_; rintro e w1 ⟨d, v, hdep, rfl, hV0, hB⟩; have hV := RInts.stable.sub (S' := Lt w1.heap.size) hV0 (fun b hb => hb.2); clear hV0)
  have Hdep := Lib.hid hdep
  have HV := Lib.hid hV
  have HB := Lib.hid hB
  have hhi := IsDepth.hi HG.out ha hdep b
  have hdl : d.length = G.length := hdep.1
  obtain ⟨Ad, cd, rfl, hmd, hatd⟩ := hV.open_
  have hbl : b < d.length := by omega
  obtain ⟨bd, od, ud, rfl, hbd, hcd, hud⟩ := hatd.lt_ hbl
  obtain rfl := hud
  have hdb : dd d b = d[b] := by simp [dd, List.getD, hbl]
  obtain ⟨xb, hxb⟩ : ∃ x, x = d[b] := ⟨_, rfl⟩
  rw [← hxb] at hdb hcd
  have Hatd := Lib.hid hatd
  have Hdl := Lib.hid hdl
  rw [hdl] at *
  clear hxb hV hB hdep Hd hatd hdl
  by_cases hneg : xb < 0
  · have hp : pathR G d b = [] := by unfold pathR; rw [hdb, if_neg (by omega)]
    have Hp := Lib.hid hp
    clear hp hdb hhi
    go_wp2
    go_ret
    exact ⟨d, _, Hdep.out, rfl, by rw [Hp.out]; exact RSl.nil_ _ _ _, HB.out⟩
  · have Hdb := Lib.hid hdb
    rw [hdb] at hhi
    clear hdb
    go_wp2
    obtain ⟨K, hK⟩ : ∃ K : Nat, dd d b = (K : Int) := ⟨xb.toNat, by rw [Hdb.out]; omega⟩
    have HK := Lib.hid hK
    have hKl : K ≤ 100000 := by have := Hdb.out; omega
    have hr0 : RNats (w1.alloc (.cells #[.int .i64 (b : Int)] 3)) (Lt (w1.alloc (.cells #[.int .i64 (b : Int)] 3)).heap.size) (.slice (some ⟨w1.heap.size, 0, none⟩) 1 1) [b] :=
      nats_of_own (base := w1.heap.size) (e := 3) (World.ownsRow_lit (base := w1.heap.size) (e := 3) (size := 1) w1 #[natV b] 1 (Nat.le_refl _) (by unfold maxLen; omega) rfl) (fun g hg => by cases hg; simp [Lt])
    have HR0 := Lib.hid hr0
    have HB1 := Lib.hid (below_alloc w1 (.cells #[.int .i64 (b : Int)] 3))
    clear hr0 hK hcd Hdb
    generalize w1.alloc (.cells #[.int .i64 (b : Int)] 3) = w2 at *
    generalize Value.slice (some ⟨w1.heap.size, 0, none⟩) 1 1 = v8 at *
    go_loopg [8] K (fun gk v8 wr => ∃ (cur : Nat) (suf : List Nat), Hid (cur < G.length ∧ dd d cur = (gk : Int) ∧ (backL G d gk cur).reverse ++ suf = pathL G d b ∧ suf.length + gk = K) ∧ Hid (RNats wr (Lt wr.heap.size) v8 (cur :: suf)) ∧ Hid (Below w1.heap.size w1 wr))
    case atStart => exact ⟨b, [], ⟨hb, HK.out, by rw [List.append_nil]; unfold pathL; rw [HK.out, Int.toNat_natCast], by simp⟩, HR0.out, HB1.out⟩
    case round =>
      obtain ⟨w4, rfl⟩ : ∃ w0 : World, w0 = wr := ⟨_, rfl⟩
      obtain ⟨cur, suf, Hc, HR, HB4⟩ := hrel
      obtain ⟨A8, c8, rfl, hm8, hat8⟩ := HR.out.open_
      obtain ⟨b8, o8, u8, rfl, hb8, hc8, hu8⟩ := hat8.lt_ (k := 0) (by simp)
      obtain rfl := hu8
      simp only [List.getElem_cons_zero, Nat.add_zero, List.length_cons] at hc8 hm8 ⊢
      unfold natV at hc8
      have Hat8 := Lib.hid hat8
      clear hat8
      cases gk with
      | zero =>
        have hca : cur = a := (IsDepth.zero Hdep.out Hc.out.1).1 Hc.out.2.1
        have hne : ((cur : Int) != (a : Int)) = false := by rw [hca]; simp
        have Hpl := Lib.hid (show cur :: suf = pathR G d b by
          have h1 := Hc.out.2.2.1
          unfold pathR
          rw [HK.out, if_pos (by omega), ← h1]; rfl)
        clear hca
        go_wp2
        go_ret
        exact ⟨d, _, Hdep.out, rfl, by rw [← Hpl.out]; exact HR.out, HB.out.trans (HB4.out.mono HB.out.size)⟩
      | succ k =>
        have hgk : dd d cur = ((k + 1 : Nat) : Int) := Hc.out.2.1
        have hcl := Hc.out.1
        obtain ⟨hpo, hpd, hpe, hpl⟩ := prev_some Hdep.out hcl hgk
        have hca : cur ≠ a := fun e => by have := (IsDepth.zero Hdep.out hcl).2 e; omega
        have hne : ((cur : Int) != (a : Int)) = true := by simp; omega
        have Hpo := Lib.hid hpo
        have Hgk := Lib.hid hgk
        have hsl : suf.length ≤ 100000 := by have := Hc.out.2.2.2; omega
        have hcc := RInts.at_nat Hatd.out (ag_of_below HB4.out) (k := cur) (by have := Hdep.out.1; omega)
        have hdc : dd d cur = d[cur]'(by have := Hdep.out.1; omega) := by simp [dd, List.getD, show cur < d.length by have := Hdep.out.1; omega]
        rw [← hdc, hgk] at hcc
        have Hlead := Lib.hid (fun (x m : Nat) (hx : x < G.length) => Leads_any (.slice A G.length c) G x cur (w4.drewN m) (RNatss.stable.up Hs.out ((HB.out.trans (HB4.out.mono HB.out.size)).trans (below_drewN (Below.refl _ _) m))) hx)
        clear hgk hpo hpd hpe hpl hca hdc
        have hck : ((k + 1 : Nat) : Int) = (k : Int) + 1 := by omega
        rw [hck] at hcc
        clear hck
        have hkk : k ≤ 100000 := by have := Hc.out.2.2.2; omega
        go_wp2
        go_loopw [27, 8] (fun sv sv8 wr => ∃ i : Nat, i ≤ G.length ∧ sv = .int .i64 i ∧ sv8 = .slice (some ⟨b8, o8, none⟩) (suf.length + 1) c8 ∧ (∃ m, wr = w4.drewN m) ∧ Hid ((List.range i).find? (fun x => decide (dd d x = dd d cur - 1) && leads G x cur) = none)) (fun sv _ _ => G.length - (intOf sv).toNat)
        case atStart => exact ⟨0, Nat.zero_le _, rfl, rfl, ⟨0, rfl⟩, rfl⟩
        case round =>
          obtain ⟨i, hile, rfl, rfl, ⟨m, rfl⟩, hinv⟩ := hrel
          by_cases hilt : i < G.length
          · have hid : i < d.length := by have := Hdep.out.1; omega
            have hci := RInts.at_nat Hatd.out (ag_of_below HB4.out) hid
            have hdi : dd d i = d[i] := by simp [dd, List.getD, hid]
            obtain ⟨xi, hxi⟩ : ∃ x, x = d[i] := ⟨_, rfl⟩
            rw [← hxi] at hci hdi
            clear hxi hid
            have hnext : (decide (xi = (k : Int)) && leads G i cur) = false → Hid ((List.range (i + 1)).find? (fun x => decide (dd d x = dd d cur - 1) && leads G x cur) = none) := fun h => by
              show (List.range (i + 1)).find? _ = none
              rw [List.range_succ, List.find?_append, hinv.out, List.find?_singleton, hdi, Hgk.out, if_neg (by rw [show (((k + 1 : Nat) : Int) - 1) = (k : Int) by omega, h]; simp)]; rfl
            have Hnext := Lib.hid hnext
            have Hdi := Lib.hid hdi
            clear hnext hdi
            by_cases h1 : 0 ≤ xi
            case neg =>
              have Hn := Lib.hid (Hnext.out (by rw [decide_eq_false (by omega)]; rfl))
              have hbd : decide (0 ≤ xi) = false := by simpa using h1
              go_wp2
              go_quiet (fail)
              go_wp2
              go_roundw
              case rel => exact ⟨i + 1, by omega, by go_num, rfl, ⟨_, rfl⟩, Hn.out⟩
              case measure => simp [intOf]; omega
            case pos =>
              have hbd : decide (0 ≤ xi) = true := by simpa using h1
              have hw : IntKind.i64.wrap (k : Int) = (k : Int) := IntWalk.i64_in _ (by omega)
              by_cases h2 : xi = (k : Int)
              case neg =>
                have Hn := Lib.hid (Hnext.out (by rw [decide_eq_false h2]; rfl))
                have hbb : (xi == (k : Int)) = false := by simpa using h2
                go_wp2
                go_quiet (fail)
                go_wp2
                go_roundw
                case rel => exact ⟨i + 1, by omega, by go_num, rfl, ⟨_, rfl⟩, Hn.out⟩
                case measure => simp [intOf]; omega
              case pos =>
                have hbb : (xi == (k : Int)) = true := by simpa using h2
                cases hld : leads G i cur with
                | false =>
                  have Hn := Lib.hid (Hnext.out (by rw [hld, Bool.and_false]))
                  have Hl := Lib.hid (fun m => Hlead.out i m hilt)
                  rw [hld] at Hl
                  clear hld h2
                  go_wp2
                  go_quiet ((go_at_call 27; exact quiet_add_left (Hl.out _)))
                  go_wp2
                  go_roundw
                  case rel => exact ⟨i + 1, by omega, by go_num, rfl, ⟨_, rfl⟩, Hn.out⟩
                  case measure => simp [intOf]; omega
                | true =>
                  have Hl := Lib.hid (fun m => Hlead.out i m hilt)
                  have hpi : prevN G d cur = i := by
                    have h3 : prevO G d cur = some i := by
                      unfold prevO
                      rw [List.find?_range_eq_some]
                      refine ⟨by rw [Hdi.out, Hgk.out, hld, decide_eq_true (by omega)]; rfl, by simpa using hilt, fun j hj => ?_⟩
                      have h4 := List.find?_eq_none.1 hinv.out j (by simpa using hj)
                      rw [Bool.not_eq_true] at h4
                      rw [h4]; rfl
                    unfold prevN
                    rw [h3]; rfl
                  have Hr := Lib.hid (show i < G.length ∧ dd d i = (k : Int) ∧ (backL G d k i).reverse ++ (cur :: suf) = pathL G d b ∧ (cur :: suf).length + k = K from ⟨hilt, by rw [Hdi.out, h2], by
                    have h3 := Hc.out.2.2.1
                    rw [← h3, ← hpi]
                    show _ = (cur :: backL G d k (prevN G d cur)).reverse ++ suf
                    simp, by have h3 := Hc.out.2.2.2; simp; omega⟩)
                  rw [hld] at Hl
                  clear h2 hld hpi
                  go_wp2
                  go_quiet ((go_at_call 27; exact quiet_add_left (Hl.out _)))
                  have hagm : Ag (Lt w4.heap.size) w4 ((w4.drewN (m + nq)).alloc (.cells #[.int .i64 (i : Int)] 3)) := fun b hb => Below.heap_alloc (w4.drewN (m + nq)) _ b hb
                  have Hat9 := Lib.hid (Hat8.out.agree RNat.stable hagm (fun _ h => h))
                  have hcells := Lib.hid (rat_cells (R := RNat) (f := natV) (fun _ _ _ _ h => h) Hat9.out)
                  have hbel := Lib.hid (show Below w1.heap.size w1 ((w4.drewN (m + nq)).alloc (.cells #[.int .i64 (i : Int)] 3)) from (below_drewN HB4.out (m + nq)).alloc HB4.out.size _)
                  have hlit := Lib.hid (World.ownsRow_lit (base := w4.heap.size) (e := 3) (size := 1) (w4.drewN (m + nq)) #[natV i] 1 (Nat.le_refl _) (by unfold maxLen; omega) rfl)
                  have hs4 := HB4.out.size
                  clear hagm
                  go_wp2_with (at_builtin
                               refine wpList_appendL rfl _ _ _ rfl eInt (v := .slice (some ⟨w4.heap.size, 0, none⟩) 1 1) rfl hlit.out ⟨b8, o8, none⟩ (suf.length + 1) c8 ((cur :: suf).map natV) rfl (by simp) hcells.out (by intro u hu; obtain ⟨x, _, rfl⟩ := List.mem_map.1 hu; rfl) (by omega) (by simp) ?_
                               intro v7 w7 hown7 hg7 hat7
                               have HB7 := Lib.hid (hbel.out.grown hg7 hbel.out.size (fun b hb => by cases hb; exact hs4))
                               have Hr7 := Lib.hid (show RNats w7 (Lt w7.heap.size) v7 (i :: cur :: suf) from nats_of_own (l := i :: cur :: suf) (by simpa [Nat.add_comm] using hown7) (own_lt hown7))
                               clear hown7 hg7 hat7)
                  go_roundg k
                  case rel => exact ⟨i, cur :: suf, Hr.out, Hr7.out, HB7.out⟩
                  case measure => omega
          · obtain rfl : i = G.length := by omega
            have h1 := Hpo.out
            unfold prevO at h1
            rw [hinv.out] at h1
            cases h1
end Go.Proofs.Ytjmenkjmghmkpaa
