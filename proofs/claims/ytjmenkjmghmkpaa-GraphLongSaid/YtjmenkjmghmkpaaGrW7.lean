/- graph.Path: the way from a node to another one. -/
import Derived.Test.YtjmenkjmghmkpaaGrW5
import Derived.Test.YtjmenkjmghmkpaaFnRev
import Derived.Test.YtjmenkjmghmkpaaGrC
namespace Go.Proofs.Ytjmenkjmghmkpaa
open Go.RowKit
open G22

set_option maxHeartbeats 400000 in
/-- The closure: is a node one step less away than another one? -/
theorem step_any (D n bd bn : Nat) (d : List Int) (x y : Nat) (w : World) (hd : w.cell? ⟨bd, 0, none⟩ = some (.slice (some ⟨D, 0, none⟩) n n)) (hy : w.cell? ⟨bn, 0, none⟩ = some (.int .i64 (y : Int)))
    (hV : VBlk w D 3 (iVs d)) (hl : d.length = n) (hn : n ≤ 1000000) (hx : x < n) (hyn : y < n) (hlo : -1 ≤ dd d y) (hhi : dd d y ≤ 1000000) :
    Calls Try.prog 30 #[.int .i64 (x : Int), .pointer (some ⟨bd, 0, none⟩), .pointer (some ⟨bn, 0, none⟩)] w fun e w' => e = .returned (.bool (decide (dd d x = dd d y - 1))) ∧ ∃ m, w' = w.drewN m := by
  subst hl
  have hcx := hV.int hx
  have hcy := hV.int hyn
  have hdx : dd d x = d[x] := by simp [dd, List.getD, hx]
  have hdy : dd d y = d[y] := by simp [dd, List.getD, hyn]
  rw [hdy] at hlo hhi
  rw [hdx, hdy]
  clear hdx hdy
  have hdec : (d[x] == d[y] - 1) = decide (d[x] = d[y] - 1) := by rw [Bool.eq_iff_iff]; simp
  obtain ⟨q, hq⟩ : ∃ q, q = decide (d[x] = d[y] - 1) := ⟨_, rfl⟩
  rw [← hq] at hdec ⊢
  have Hq := Lib.hid hdec
  clear hq hdec hV
  go_enter Try.func30, Try.ntmps30
  go_wp2
  go_quiet (fail)
  go_wp2
  go_ret
  exact ⟨ret_bool Hq.out, _, rfl⟩
theorem IsDepth.lo {G : Gr} {a : Nat} {d : List Int} (h : IsDepth G a d) (b : Nat) : -1 ≤ dd d b := by
  rcases Nat.lt_or_ge b d.length with h1 | h1
  · rcases h.2 b (by rw [← h.1]; exact h1) with ⟨h2, _⟩ | ⟨k, h2, _⟩
    · exact Int.le_of_eq h2.symm
    · rw [show dd d b = (k : Int) from h2]; omega
  · rw [dd_out h1]; omega
theorem IsDepth.hi {G : Gr} {a : Nat} {d : List Int} (hG : okG G) (ha : a < G.length) (h : IsDepth G a d) (b : Nat) : dd d b ≤ G.length := by
  rcases Nat.lt_or_ge b d.length with h1 | h1
  · rcases h.2 b (by rw [← h.1]; exact h1) with ⟨h2, _⟩ | ⟨k, h2, h3⟩
    · rw [show dd d b = -1 from h2]; omega
    · rw [show dd d b = (k : Int) from h2]; have := h3.lt hG ha; omega
  · rw [dd_out h1]; omega
theorem IsDepth.zero {G : Gr} {a x : Nat} {d : List Int} (h : IsDepth G a d) (hx : x < G.length) : dd d x = 0 ↔ x = a := by
  constructor
  · intro h0
    have h1 : d.getD x (-1) = 0 := h0
    have := h.pos hx (by omega)
    rw [h1] at this
    exact Eq.symm this.1
  · rintro rfl
    rcases h.2 x hx with ⟨_, h2⟩ | ⟨k, h2, h3⟩
    · exact absurd (Reach.refl G x) h2
    · have : Least G 0 x x := ⟨rfl, fun j hj => absurd hj (Nat.not_lt_zero _)⟩
      rw [show dd d x = (k : Int) from h2, h3.unique this]; rfl
theorem backL_cons (G : Gr) (d : List Int) (k b : Nat) : ∃ l, backL G d k b = b :: l := by
  cases k with
  | zero => exact ⟨[], rfl⟩
  | succ k => exact ⟨_, rfl⟩
theorem cf30 (args : Array Value) (w : World) : (callFunc 30 args).run Try.prog w = .ok (.enter 30 args) w := callFunc_run (by exact Try.func30) (by decide +kernel) (by decide +kernel) args w
def PathPost (G : Gr) (a b : Nat) (w : World) (e : Ending) (w' : World) : Prop :=
  ∃ d v, IsDepth G a d ∧ e = .returned v ∧ RNats w' (Lt w'.heap.size) v (pathR G d b) ∧ Below w.heap.size w w'
set_option maxHeartbeats 1000000 in
theorem Path_no (s : Value) (g : List (List Int)) (x y : Int) (w : World) {B : Nat} (hs : RIntss w (Lt B) s g) (h : (mayG g && isNodeB g.length x) = false) :
    Calls Try.prog 16 #[s, .int .i64 x, .int .i64 y] w fun e w' => e = .returned (.slice none 0 0) ∧ Below w.heap.size w w' := by
  have Hd := Lib.hid (Depth_no s g x w hs h)
  have HB := Lib.hid (below_alloc w (.cells #[.slice none 0 0] 25))
  have heq := fun (w : World) (a : Option Addr) (n c : Nat) => Lib.run_eql_slice_nil (P := Try.prog) w 25 3 a n c 0 0 Try.underlying25
  clear h hs
  go_enter Try.func16, Try.ntmps16
  go_wp2_with (go_at_call 15; refine Hd.out.mono ?_; rintro e w1 ⟨rfl, rfl⟩)
  go_ret
  exact ⟨rfl, HB.out⟩
set_option maxRecDepth 100000 in
set_option maxHeartbeats 1000000 in
theorem Path_to (s : Value) (G : Gr) (a : Nat) (y : Int) (w : World) (hs : RNatss w (Lt w.heap.size) s G) (hG : okG G) (ha : a < G.length) (hn : G.length ≤ 1000000) (hy : isNodeB G.length y = false) :
    Calls Try.prog 16 #[s, .int .i64 a, .int .i64 y] w fun e w' => e = .returned (.slice none 0 0) ∧ Below w.heap.size w w' := by
  have Hd := Lib.hid (Depth_any s G a w hs hG ha hn)
  have Hi := Lib.hid (intss_of_natss hs)
  have Hy := Lib.hid (show isNodeB (intss G).length y = false by rw [List.length_map]; exact hy)
  have heq := fun (w : World) (a : Option Addr) (n c : Nat) => Lib.run_eql_slice_nil (P := Try.prog) w 25 3 a n c 0 0 Try.underlying25
  clear hG hs hy
  go_enter Try.func16, Try.ntmps16
  go_wp2_with (first
    | (go_at_call 15; refine Hd.out.mono ?_; rintro e w1 ⟨d, hdep, rfl, hV, hB⟩; have HBB := Lib.hid (hB.alloc hB.size (.cells #[.slice (some ⟨w.heap.size, 0, none⟩) G.length G.length] 25)); clear hdep hV hB)
    | (go_at_call 28; refine (isNode_any _ _ _ _ (RIntss.stable.below Hi.out HBB.out)).mono ?_; rintro e w1 ⟨rfl, rfl⟩; rw [Hy.out]))
  go_ret
  exact ⟨rfl, HBB.out⟩
set_option maxRecDepth 100000 in
set_option maxHeartbeats 2000000 in
theorem Path_any (s : Value) (G : Gr) (a b : Nat) (w : World) (hs : RNatss w (Lt w.heap.size) s G) (hG : okG G) (ha : a < G.length) (hb : b < G.length) (hn : G.length ≤ 100000) (hr : ∀ a, (row G a).length ≤ 100000) :
    Calls Try.prog 16 #[s, .int .i64 a, .int .i64 b] w (PathPost G a b w) := by
  have Hd := Lib.hid (Depth_any s G a w hs hG ha (by omega))
  have Hi := Lib.hid (intss_of_natss hs)
  have Hs := Lib.hid hs
  have HG := Lib.hid hG
  have Hr := Lib.hid hr
  have Hy := Lib.hid (show isNodeB (intss G).length (b : Int) = true by rw [List.length_map, isNodeB_lt]; simpa using hb)
  have heq := fun (w : World) (a : Option Addr) (n c : Nat) => Lib.run_eql_slice_nil (P := Try.prog) w 25 3 a n c 0 0 Try.underlying25
  clear hG hs hr
  go_enter Try.func16, Try.ntmps16
  go_wp2_with (go_at_call 15; refine Hd.out.mono ?_; rintro e w1 ⟨d, hdep, rfl, hV, hB⟩)
  have HVa := Lib.hid (hV.alloc (.cells #[.slice (some ⟨w.heap.size, 0, none⟩) G.length G.length] 25))
  have HPa := Lib.hid (vblk_new w1 25 #[.slice (some ⟨w.heap.size, 0, none⟩) G.length G.length])
  have HBa := Lib.hid (hB.alloc hB.size (.cells #[.slice (some ⟨w.heap.size, 0, none⟩) G.length G.length] 25))
  have hPl : w1.heap.size < (w1.alloc (.cells #[.slice (some ⟨w.heap.size, 0, none⟩) G.length G.length] 25)).heap.size := by simp
  have hDP := hV.lt
  have Hdep := Lib.hid hdep
  have hdl : b < d.length := by rw [hdep.1]; exact hb
  have hhi := IsDepth.hi HG.out ha hdep b
  have hdb : dd d b = d[b] := by simp [dd, List.getD, hdl]
  clear hV hB hdep Hd
  obtain ⟨D, hD⟩ : ∃ D, D = w.heap.size := ⟨_, rfl⟩
  rw [← hD] at HVa HPa HBa hPl hDP Hi Hs ⊢
  have HD := Lib.hid hD
  clear hD
  generalize w1.alloc (.cells #[.slice (some ⟨D, 0, none⟩) G.length G.length] 25) = wa at *
  generalize w1.heap.size = P at *
  have hcP : wa.cell? ⟨P, 0, none⟩ = some (.slice (some ⟨D, 0, none⟩) G.length G.length) := HPa.out.cell (i := 0) rfl
  have hcb := HVa.out.int hdl
  have hDl := HVa.out.lt
  obtain ⟨xb, hxb⟩ : ∃ x, x = d[b] := ⟨_, rfl⟩
  rw [← hxb] at hdb hcb
  clear hxb
  have Ha := Lib.hid (RIntss.stable.below Hi.out HBa.out)
  by_cases hneg : xb < 0
  · have hp : pathR G d b = [] := by unfold pathR; rw [hdb, if_neg (by omega)]
    have Hp := Lib.hid hp
    clear hp hdb hhi
    go_wp2_with (go_at_call 28; refine (isNode_any _ _ _ _ Ha.out).mono ?_; rintro e w1 ⟨rfl, rfl⟩; rw [Hy.out])
    go_ret
    exact ⟨d, _, Hdep.out, rfl, by rw [Hp.out]; exact RSl.nil_ _ _ _, by rw [← HD.out]; exact HBa.out⟩
  · have Hdb := Lib.hid hdb
    rw [hdb] at hhi
    clear hdb
    go_wp2_with (first
      | (go_at_call 28; refine (isNode_any _ _ _ _ Ha.out).mono ?_; rintro e w1 ⟨rfl, rfl⟩; rw [Hy.out])
      | (go_at_call 18
         refine (Turned_any s G wa (RNatss.stable.sub (RNatss.stable.below Hs.out HBa.out) (fun b (hb : b < D) => (Nat.lt_trans hb hDl : b < _))) HG.out hn Hr.out).mono ?_
         rintro e w2 ⟨vs, rfl, hT, hB2⟩))
    have HV2 := Lib.hid (HVa.out.below hB2 hDl)
    have HP2 := Lib.hid (HPa.out.below hB2 hPl)
    have HT2 := Lib.hid hT
    have HB2 := Lib.hid (HBa.out.trans (hB2.mono (Nat.le_of_lt hDl)))
    have hTQ : wa.heap.size < w2.heap.size := hT.blk.lt
    generalize wa.heap.size = T at *
    have hPQ : P < w2.heap.size := by omega
    obtain ⟨K, hK⟩ : ∃ K : Nat, dd d b = (K : Int) := ⟨xb.toNat, by rw [Hdb.out]; omega⟩
    have HK := Lib.hid hK
    have hKl : K ≤ 100000 := by have := Hdb.out; omega
    have HO0 := Lib.hid (show ((w2.alloc (.cells #[.int .i64 (b : Int)] 3)).alloc (.cells #[.int .i64 (b : Int)] 3)).ownsRow w2.heap.size 3 1 (.slice (some ⟨w2.heap.size, 0, none⟩) 1 1) 1 ([b].map natV) from
      (World.ownsRow_lit (base := w2.heap.size) (e := 3) (size := 1) w2 #[natV b] 1 (Nat.le_refl _) (by unfold maxLen; omega) rfl).alloc _)
    have HN0 := Lib.hid (show VBlk ((w2.alloc (.cells #[.int .i64 (b : Int)] 3)).alloc (.cells #[.int .i64 (b : Int)] 3)) (w2.heap.size + 1) 3 [natV b] by
      have := vblk_new (w2.alloc (.cells #[.int .i64 (b : Int)] 3)) 3 #[natV b]
      simp only [World.size_alloc] at this
      exact this)
    have HB0 := Lib.hid (show Below w2.heap.size w2 ((w2.alloc (.cells #[.int .i64 (b : Int)] 3)).alloc (.cells #[.int .i64 (b : Int)] 3)) from ((Below.refl _ _).alloc (Nat.le_refl _) _).alloc (by simp) _)
    have hO9 : (Value.slice (some ⟨w2.heap.size, 0, none⟩) 1 1).ownBlock ≠ some (w2.heap.size + 1) := by simp [Value.ownBlock]
    clear hT hB2 HVa HPa HBa hcP hcb hDl Ha hK Hdb hneg hhi hdl Hi Hs Hy
    generalize (w2.alloc (.cells #[.int .i64 (b : Int)] 3)).alloc (.cells #[.int .i64 (b : Int)] 3) = w3 at *
    obtain ⟨Q, hQ⟩ : ∃ Q, Q = w2.heap.size := ⟨_, rfl⟩
    rw [← hQ] at HO0 HN0 HB0 hO9 hTQ hPQ ⊢
    have hQ2 : Q ≤ w2.heap.size := by omega
    have HQ := Lib.hid hQ
    clear hQ
    generalize Value.slice (some ⟨Q, 0, none⟩) 1 1 = v9 at *
    go_loopg [10, 9] K (fun gk p10 v9 wr => ∃ (bn cur : Nat) (pre : List Nat), p10 = .pointer (some ⟨bn, 0, none⟩) ∧ Hid (cur < G.length ∧ dd d cur = (gk : Int) ∧ pre ++ backL G d gk cur = backL G d K b ∧ pre.length + gk = K) ∧ Hid (VBlk wr bn 3 [natV cur] ∧ Q ≤ bn) ∧ Hid (wr.ownsRow Q 3 1 v9 (pre.length + 1) ((pre ++ [cur]).map natV) ∧ v9.ownBlock ≠ some bn) ∧ Hid (Below Q w2 wr))
    case atStart => exact ⟨Q + 1, b, [], rfl, ⟨hb, HK.out, rfl, by simp⟩, ⟨HN0.out, by omega⟩, ⟨HO0.out, hO9⟩, HB0.out⟩
    case round =>
      obtain ⟨w4, rfl⟩ : ∃ w0 : World, w0 = wr := ⟨_, rfl⟩
      obtain ⟨bn, cur, pre, rfl, Hc, HN, HO, HB⟩ := hrel
      have hcn : w4.cell? ⟨bn, 0, none⟩ = some (.int .i64 (cur : Int)) := HN.out.1.cell (i := 0) rfl
      obtain ⟨A9, c9, rfl⟩ := own_shape HO.out.1
      cases gk with
      | zero =>
        have hca : cur = a := (IsDepth.zero Hdep.out Hc.out.1).1 Hc.out.2.1
        have hne : ((cur : Int) != (a : Int)) = false := by rw [hca]; simp
        have Hpl := Lib.hid (show ((pre ++ [cur]).reverse) = pathR G d b by
          have h1 := Hc.out.2.2.1
          unfold pathR pathL
          rw [HK.out, if_pos (by omega), Int.toNat_natCast, ← h1]; rfl)
        have Hlen := Lib.hid Hc.out.2.2.2
        have Hrv := Lib.hid (Reverse_any (.slice A9 (pre.length + 1) c9) (pre ++ [cur]) Q w4 (by simpa using HO.out.1) (by have := Hc.out.2.2.2; simp; omega))
        clear hca
        go_wp2_with (go_at_call 31; refine Hrv.out.mono ?_; rintro e w5 ⟨rfl, ho5, hb5⟩)
        go_ret
        rw [Hpl.out] at ho5
        refine ⟨d, _, Hdep.out, rfl, ?_, ?_⟩
        · have hl : (pre ++ [cur]).length = (pathR G d b).length := by rw [← Hpl.out, List.length_reverse]
          rw [hl] at ho5
          have hl2 : pre.length + 1 = (pathR G d b).length := by rw [← hl]; simp
          rw [hl2] at ho5 ⊢
          exact nats_of_own ho5 (own_lt ho5)
        · rw [← HD.out]
          exact HB2.out.trans (((HB.out.trans hb5)).mono (by omega))
      | succ k =>
        have hgk : dd d cur = ((k + 1 : Nat) : Int) := Hc.out.2.1
        have hcl := Hc.out.1
        obtain ⟨hpo, hpd, hpe, hpl⟩ := prev_some Hdep.out hcl hgk
        have hca : cur ≠ a := fun e => by have := (IsDepth.zero Hdep.out hcl).2 e; omega
        have hne : ((cur : Int) != (a : Int)) = true := by simp; omega
        have HV4 := Lib.hid (HV2.out.below HB.out (by omega))
        have HP4 := Lib.hid (HP2.out.below HB.out hPQ)
        have HT4 := Lib.hid (HT2.out.up (by rw [← HQ.out]; exact HB.out))
        have hcl2 : cur < (turnG G).length := by rw [turnG_length]; exact hcl
        obtain ⟨Ar, cr, hvr, hcr, hor⟩ := HT4.out.row hcl2
        have her : (turnG G)[cur] = turnTo G G.length cur := by rw [← row_at hcl2, row_turn hcl]
        rw [her] at hcr hor
        have Hrow := Lib.hid (nats_of_own hor (own_lt hor))
        have Hfi := Lib.hid (show (turnTo G G.length cur).find? (fun x => decide (dd d x = dd d cur - 1)) = some (prevN G d cur) by rw [find_prev]; exact hpo)
        obtain ⟨i, hi, hii, hix⟩ := idxN_find Hfi.out
        obtain ⟨R, hR⟩ : ∃ R, R = turnTo G G.length cur := ⟨_, rfl⟩
        have HRm := Lib.hid (show ∀ x ∈ R, x < G.length by intro x hx; rw [hR] at hx; exact (mem_turnTo.1 hx).1)
        simp only [← hR] at hcr Hrow Hfi hii hi hix
        obtain ⟨A2, c2, eA, hm2, hat2⟩ := Hrow.out.open_
        cases eA
        obtain ⟨b7, o7, u7, rfl, _, hc7, hu7⟩ := hat2.at_ RNat.stable (Ag.refl _ _) hi
        obtain rfl := hu7
        unfold natV at hc7
        rw [hix] at hc7
        have hdl4 : d.length = G.length := Hdep.out.1
        have Hidx := Lib.hid (IndexFunc2_any 30 (.pointer (some ⟨P, 0, none⟩)) (.pointer (some ⟨bn, 0, none⟩)) (fun x => decide (dd d x = dd d cur - 1)) _ R w4 Hrow.out cf30 (fun x m hx =>
          step_any D G.length P bn d x cur (w4.drewN m) (HP4.out.cell (i := 0) rfl) (HN.out.1.cell (i := 0) rfl) HV4.out hdl4 (by omega) (HRm.out x hx) hcl (by omega) (by have h1 := IsDepth.hi HG.out ha Hdep.out cur; omega)))
        rw [hii] at Hidx
        have hprev := Lib.hid (show Hid (prevN G d cur < G.length ∧ dd d (prevN G d cur) = (k : Int) ∧ (pre ++ [cur]) ++ backL G d k (prevN G d cur) = backL G d K b ∧ (pre ++ [cur]).length + k = K) from ⟨hpl, hpd, by
          have h1 := Hc.out.2.2.1
          rw [← h1, List.append_assoc]; rfl, by have h1 := Hc.out.2.2.2; simp; omega⟩)
        have hpk : pre.length ≤ 100000 := by have h1 := Hc.out.2.2.2; omega
        obtain ⟨pv, hpv⟩ : ∃ pv, pv = prevN G d cur := ⟨_, rfl⟩
        rw [← hpv] at hprev hc7
        have hfz := HN.out.1.frozen 0
        have HOs := Lib.hid (fun m => show ((w4.drewN m).setCell ⟨bn, 0, none⟩ (.int .i64 (pv : Int))).ownsRow Q 3 1 (.slice A9 (pre.length + 1) c9) (pre.length + 1) ((pre ++ [cur]).map natV) from own_ag HO.out.1 fun g hg => Below.heap_setCell (w4.drewN m) ⟨bn, 0, none⟩ (.int .i64 (pv : Int)) g fun e => by
          have e' : g = bn := e
          rw [e'] at hg
          exact HO.out.2 hg)
        have HBs := Lib.hid (fun m => show Below Q w2 ((w4.drewN m).setCell ⟨bn, 0, none⟩ (.int .i64 (pv : Int))) from (below_drewN HB.out m).setCell HN.out.2 _)
        have HNs := Lib.hid (fun m => show VBlk ((w4.drewN m).setCell ⟨bn, 0, none⟩ (.int .i64 (pv : Int))) bn 3 [natV pv] from (HN.out.1.drewN m).set 0 _)
        have hQ4 : Q ≤ w4.heap.size := by have := HB.out.size; omega
        clear hpo hpd hpe hpl hca hvr hor her hR Hfi hm2 hat2 hgk hpv hii hix HRm hcl2 hdl4
        go_wp2_with (first
          | (go_at_call 29; refine Hidx.out.mono ?_; rintro e w5 ⟨rfl, m, rfl⟩)
          | (at_builtin
             refine wpList_push rfl _ _ _ rfl eInt (v := .slice A9 (pre.length + 1) c9) rfl ((HOs.out m).alloc _) w4.heap.size (natV pv) rfl (by simp [go_sem, natV]) rfl (by omega) (by simp [World.setCell]; omega) ?_
             intro v7 w7 hown7 hg7 hat7
             have HN7 := Lib.hid (((HNs.out m).alloc (.cells #[.int .i64 (pv : Int)] 3)).grown hg7 (fun e => HO.out.2 e.symm))
             have HB7 := Lib.hid (((HBs.out m).alloc (by rw [size_setCell]; exact hQ4) (.cells #[.int .i64 (pv : Int)] 3)).grown hg7 (by simp [World.setCell]; omega) (fun b hb => ((HO.out.1).lt b hb).1))
             have hc9 : w7.cell? ⟨bn, 0, none⟩ = some (.int .i64 (pv : Int)) := HN7.out.cell (i := 0) rfl
             have hs7 : Q ≤ w7.heap.size := (by have := hg7.size; simp [World.setCell] at this; omega)
             have Ho7 := Lib.hid (hown7.alloc (.cells #[.int .i64 (pv : Int)] 3))
             have Hlt7 := Lib.hid (fun g hg => (hown7.lt g hg).2)
             clear hg7 hown7 hat7))
        go_roundg k
        case rel => exact ⟨w7.heap.size, pv, pre ++ [cur], rfl, hprev.out, ⟨vblk_new _ _ #[natV pv], hs7⟩, ⟨(by rw [List.map_append, List.length_append]; exact Ho7.out), fun e => by have := Hlt7.out _ e; omega⟩, HB7.out.alloc hs7 _⟩
        case measure => omega
end Go.Proofs.Ytjmenkjmghmkpaa
