/- Groups of the document's answer. -/
import Derived.Test.YtjmenkjmghmkpaaGrW8
import Derived.Test.YtjmenkjmghmkpaaGrS2
namespace Go.Proofs.Ytjmenkjmghmkpaa
open Go.RowKit
open G22

def GroupsPost (G : Gr) (w : World) (e : Ending) (w' : World) : Prop :=
  ∃ v L, e = .returned v ∧ RNatss w' (Lt w'.heap.size) v L ∧ Picks G (fun _ => False) L ∧ Below w.heap.size w w'
theorem eBool : Elem1 Try.prog 35 4 1 := elem1_mk (z := .bool false) Try.underlying35 (by kernel_rfl) (by omega) rfl
theorem run_makeBools (n : Nat) (hn : n ≤ 1000000000000) (W : World) : (Instr.makeSlice 35 (.int .i64 (n : Int)) (.int .i64 (n : Int))).run Try.prog W = .ok (.slice (some ⟨W.heap.size, 0, none⟩) n n) (W.alloc (.cells (madeCells #[.bool false] n) 4)) :=
  run_makeN (P := Try.prog) (bytes := 1) (z := .bool false) Try.underlying35 (by kernel_rfl) (by omega) rfl n hn W
/-- A table's row and its cells. -/
theorem table_row {G : Gr} {R : List (List Int)} {w w' : World} {S : Nat → Prop} {b o : Nat} (hT : IsTable G R) (h : RAt RInts w S (some ⟨b, o, none⟩) R) (ha : Ag S w w') {k : Nat} (hk : k < G.length) :
    ∃ bk ok ck, w'.cell? ⟨b, o + k, none⟩ = some (.slice (some ⟨bk, ok, none⟩) G.length ck) ∧ ∀ n, n < G.length → w'.cell? ⟨bk, ok + n, none⟩ = some (.int .i64 (tb R k n)) := by
  have hkR : k < R.length := by rw [hT.1]; exact hk
  have hrow : R.getD k [] = R[k] := by simp [List.getD, hkR]
  have hl : R[k].length = G.length := by rw [← hrow]; exact (hT.2 k hk).1
  obtain ⟨b', o', u, e, _, hc, hu⟩ := h.at_ RInts.stable ha hkR
  cases e
  obtain ⟨A, c, rfl, _, hat⟩ := hu.open_
  obtain ⟨bk, ok, u2, rfl, _, _, _⟩ := hat.at_ RInt.stable (Ag.refl _ _) (k := 0) (by omega)
  rw [hl] at hc
  refine ⟨bk, ok, c, hc, fun n hn => ?_⟩
  rw [RInts.at_nat hat (Ag.refl _ _) (by omega)]
  unfold tb dd
  rw [hrow]
  simp [List.getD, show n < R[k].length by omega]
def GInv (G : Gr) (gk n : Nat) (done : List Bool) (out : List (List Nat)) : Prop :=
  n ≤ G.length ∧ done.length = G.length ∧ Picked G out (DB done) ∧ (∀ m, m < n → ¬ Free G (DB done) m) ∧ gk = undone done G.length * (G.length + 2) + (G.length - n) ∧ out.length + undone done G.length ≤ G.length
theorem ginv_start (G : Gr) : GInv G (G.length * (G.length + 2) + G.length) 0 (List.replicate G.length false) [] := by
  have hf : ∀ k, gB (List.replicate G.length false) k = false := fun k => by
    unfold gB List.getD
    rw [List.getElem?_replicate]; split <;> rfl
  have hu : undone (List.replicate G.length false) G.length = G.length := by
    unfold undone
    rw [List.filter_eq_self.2]
    · simp
    · intro k _; rw [hf]; rfl
  exact ⟨Nat.zero_le _, by simp, Picked.start G (fun k hk => by unfold DB at hk; rw [hf] at hk; cases hk), fun m hm => absurd hm (Nat.not_lt_zero _), by rw [hu]; rfl, by rw [hu]; simp⟩
theorem GInv.pass {G : Gr} {gk n : Nat} {done : List Bool} {out : List (List Nat)} (h : GInv G gk n done out) (hn : n < G.length) (hf : ¬ Free G (DB done) n) : GInv G (undone done G.length * (G.length + 2) + (G.length - (n + 1))) (n + 1) done out ∧ undone done G.length * (G.length + 2) + (G.length - (n + 1)) < gk :=
  ⟨⟨hn, h.2.1, h.2.2.1, fun m hm => by
    rcases Nat.lt_or_ge m n with h1 | h1
    · exact h.2.2.2.1 m h1
    · obtain rfl : m = n := by omega
      exact hf, rfl, h.2.2.2.2.2⟩, by have := h.2.2.2.2.1; omega⟩
theorem GInv.take {G : Gr} {gk n : Nat} {done : List Bool} {out : List (List Nat)} {R : List (List Int)} (hT : IsTable G R) (h : GInv G gk n done out) (hn : n < G.length) (hd : gB done n = false) (hf : freeTo R done n G.length = true) :
    GInv G (undone (doneTo R done n G.length) G.length * (G.length + 2) + (G.length - 0)) 0 (doneTo R done n G.length) (out ++ [sccTo R n G.length]) ∧ undone (doneTo R done n G.length) G.length * (G.length + 2) + (G.length - 0) < gk ∧ out.length < G.length := by
  have hget : ∀ k, gB (doneTo R done n G.length) k = if k ∈ sccTo R n G.length then true else gB done k := fun k => doneTo_get (Nat.le_of_eq h.2.1.symm)
  have hsc := hT.scc hn
  have hself : n ∈ sccTo R n G.length := (hsc.2 n).2 ⟨hn, .refl _ _, .refl _ _⟩
  have hlt : undone (doneTo R done n G.length) G.length < undone done G.length :=
    undone_lt (fun k hk => by rw [hget]; split; rfl; exact hk) hn hd (by rw [hget, if_pos hself])
  have hm : (undone (doneTo R done n G.length) G.length + 1) * (G.length + 2) ≤ undone done G.length * (G.length + 2) := Nat.mul_le_mul_right _ hlt
  rw [Nat.succ_mul] at hm
  have hgk := h.2.2.2.2.1
  have hol := h.2.2.2.2.2
  refine ⟨⟨Nat.zero_le _, by rw [doneTo_length]; exact h.2.1, ?_, fun m hm => absurd hm (Nat.not_lt_zero _), rfl, by rw [List.length_append]; simp; omega⟩, by omega, by omega⟩
  refine h.2.2.1.step ⟨hn, (hT.free hn).2 ⟨hd, hf⟩, h.2.2.2.1⟩ hsc fun k => ?_
  unfold DB
  rw [hget]
  by_cases hk : k ∈ sccTo R n G.length <;> simp [hk]
set_option maxRecDepth 100000 in
set_option maxHeartbeats 4000000 in
theorem refGroups_any (s : Value) (G : Gr) (w : World) (hs : RNatss w (Lt w.heap.size) s G) (hG : okG G) (hn : G.length ≤ 100000) :
    Calls Try.prog 25 #[s] w (GroupsPost G w) := by
  have HG := Lib.hid hG
  have Hs := Lib.hid hs
  obtain ⟨A, c, rfl, _, hatg⟩ := hs.open_
  have hmk := run_makeBools G.length (by omega)
  clear hG hs hatg
  obtain ⟨D, hD⟩ : ∃ D, D = w.heap.size := ⟨_, rfl⟩
  have HD := Lib.hid hD
  have hDl : D ≤ w.heap.size := by omega
  clear hD
  go_enter Try.func25, Try.ntmps25
  go_wp2
  go_loopw [14, 3] (fun sv v3 wr => ∃ (k : Nat) (R : List (List Int)), k ≤ G.length ∧ sv = .int .i64 k ∧ Hid (R.length = k ∧ ∀ i, i < k → IsDepth G i (R.getD i [])) ∧ Hid (RowsC RInts wr D 25 v3 R) ∧ Hid (Below w.heap.size w wr)) (fun sv _ _ => G.length - (intOf sv).toNat)
  case atStart => exact ⟨0, [], Nat.zero_le _, rfl, ⟨rfl, fun i hi => absurd hi (Nat.not_lt_zero _)⟩, RowsC.nil_ _ _ _ _, Below.refl _ _⟩
  case round =>
    obtain ⟨w1, rfl⟩ : ∃ w0 : World, w0 = wr := ⟨_, rfl⟩
    obtain ⟨k, R, hkle, rfl, HT, HC, HB⟩ := hrel
    obtain ⟨A3, c3, rfl⟩ := HC.out.shape
    by_cases hklt : k < G.length
    · have Hc := Lib.hid (refDepth_any (.slice A G.length c) G k w1 (RNatss.stable.up Hs.out HB.out) HG.out hklt (by omega))
      have hRl : R.length ≤ 100000 := by have := HT.out.1; omega
      have hD1 : D ≤ w1.heap.size := Nat.le_trans hDl HB.out.size
      go_wp2_with (first
        | (go_at_call 21
           refine Hc.out.mono ?_
           rintro e w2 ⟨d, v2, hdep, rfl, hV2, hB2⟩
           obtain ⟨A2, c2, rfl, hm2, hat2⟩ := hV2.open_
           clear hat2
           obtain ⟨xs, hox, hrx⟩ := HC.out.up RInts.stable hB2
           have Hox := Lib.hid hox; have Hrx := Lib.hid hrx; have Hdep := Lib.hid hdep; have HB2 := Lib.hid hB2
           have Hlt1 := Lib.hid (fun g hg => (HC.out.own.elim fun ys h => (h.lt g hg).2))
           have HV2 := Lib.hid (show RInts w2 (Oth w2 D (.slice A3 R.length c3)) (.slice A2 d.length c2) d from RInts.stable.sub hV2 fun b hb => ⟨Nat.le_trans hD1 hb.1, hb.2, fun e => by have := Hlt1.out b e; have := hb.1; omega⟩)
           have hD2 : D ≤ w2.heap.size := Nat.le_trans hD1 hB2.size
           clear hox hrx hdep hB2 hV2)
        | (at_builtin
           go_loud (refine wpList_push rfl _ _ _ rfl eRow (v := .slice A3 R.length c3) rfl (Hox.out.alloc _) w2.heap.size (.slice A2 d.length c2) rfl (by simp [go_sem]) rfl (by omega) (by simp; omega) ?_)
           intro v7 w7 hown7 hg7 hat7
           go_loud (have HC7 := Lib.hid (RowsC.snoc RInts.stable Hox.out Hrx.out HV2.out (below_alloc _ _) hg7 hown7 hat7))
           go_loud (have HB7 := Lib.hid (((HB.out.trans (HB2.out.mono HB.out.size)).alloc (Nat.le_trans HB.out.size HB2.out.size) (.cells #[.slice A2 d.length c2] 25)).grown hg7 (by simp; exact Nat.le_trans (Nat.le_trans HB.out.size HB2.out.size) (Nat.le_succ _)) (fun b hb => by rw [← HD.out]; exact (Hox.out.lt b hb).1)))
           clear hown7 hg7 hat7))
      go_roundw
      case rel =>
        refine ⟨k + 1, _, by omega, by go_num, ⟨by simp [HT.out.1], fun i hi => ?_⟩, HC7.out, HB7.out⟩
        rcases Nat.lt_or_ge i k with h1 | h1
        · have := HT.out.2 i h1
          rwa [show (R ++ [d]).getD i [] = R.getD i [] by unfold List.getD; rw [List.getElem?_append_left (by have := HT.out.1; omega)]]
        · obtain rfl : i = k := by omega
          have := Hdep.out
          rwa [show (R ++ [d]).getD i [] = d by unfold List.getD; rw [List.getElem?_append_right (by have := HT.out.1; omega)]; simp [HT.out.1]]
      case measure => simp [intOf]; omega
    · obtain rfl : k = G.length := by omega
      have HTb := Lib.hid (show IsTable G R from HT.out)
      obtain ⟨A', c', eR, hm3, hat3⟩ := (HC.out.reads RInts.stable).open_
      cases eR
      have Hat3 := Lib.hid hat3
      have hRl : R.length = G.length := HTb.out.1
      rw [hRl] at *
      clear hat3 hklt hkle HT
      have HV0 := Lib.hid (show VBlk (w1.alloc (.cells (madeCells #[.bool false] G.length) 4)) w1.heap.size 4 (bVs (List.replicate G.length false)) by
        have := vblk_made w1 4 (.bool false) G.length
        unfold bVs
        rwa [List.map_replicate])
      have HB1 := Lib.hid (below_alloc w1 (.cells (madeCells #[.bool false] G.length) 4))
      have hz1 : w1.heap.size < (w1.alloc (.cells (madeCells #[.bool false] G.length) 4)).heap.size := by simp
      obtain ⟨Q, hQ⟩ : ∃ Q, Q = w1.heap.size := ⟨_, rfl⟩
      have HQ := Lib.hid hQ
      go_wp2
      rw [← hQ] at HV0 HB1 hz1 ⊢
      clear hQ hmk
      generalize w1.alloc (.cells (madeCells #[.bool false] G.length) 4) = w2 at *
      have hz4 : Q ≤ w1.heap.size := by rw [← HQ.out]; exact Nat.le_refl _
      go_loopg [7, 6] (G.length * (G.length + 2) + G.length) (fun gk v7 v6 wr => ∃ (n : Nat) (done : List Bool) (out : List (List Nat)), v7 = .int .i64 n ∧ Hid (GInv G gk n done out) ∧ Hid (VBlk wr Q 4 (bVs done)) ∧ Hid (RowsC RNats wr (Q + 1) 25 v6 out) ∧ Hid (Below Q w1 wr))
      case atStart => exact ⟨0, _, [], rfl, ginv_start G, HV0.out, RowsC.nil_ _ _ _ _, HB1.out⟩
      case round =>
        obtain ⟨w4, rfl⟩ : ∃ w0 : World, w0 = wr := ⟨_, rfl⟩
        obtain ⟨n, done, out, rfl, Hi, HV, HC4, HB4⟩ := hrel
        obtain ⟨A6, c6, rfl⟩ := HC4.out.shape
        have hnle := Hi.out.1
        by_cases hnlt : n < G.length
        · have hdl : n < done.length := by rw [Hi.out.2.1]; exact hnlt
          have hcd := HV.out.bool hdl
          cases hd : done.getD n false with
          | true =>
            rw [hd] at hcd
            have Hg := Lib.hid (Hi.out.pass hnlt (fun hf => hf.1 hd))
            clear hd hdl Hi
            go_wp2
            go_roundg (undone done G.length * (G.length + 2) + (G.length - (n + 1)))
            case rel => exact ⟨n + 1, done, out, by go_num, Hg.out.1, HV.out, HC4.out, HB4.out⟩
            case measure => exact Hg.out.2
          | false =>
            rw [hd] at hcd
            have Hd := Lib.hid (show gB done n = false from hd)
            have hdl2 := Hi.out.2.1
            have Hdl := Lib.hid hdl2
            obtain ⟨b3, o3, e3, _, _⟩ := Hat3.out (by rw [HTb.out.1]; omega)
            subst e3
            have hag : Ag (fun b => D ≤ b ∧ b < w1.heap.size) w1 w4 := fun b hb => HB4.out.block b (by rw [HQ.out]; exact hb.2)
            have Hrow := Lib.hid (fun (k : Nat) (hk : k < G.length) => table_row HTb.out Hat3.out hag hk)
            obtain ⟨bn, on, cn, hcn, hcn2⟩ := Hrow.out n hnlt
            have Hcn2 := Lib.hid hcn2
            clear hd hag hcn2 hdl2 hdl
            go_wp2
            go_loop [39, 8] (fun sv v8 => ∃ k : Nat, k ≤ G.length ∧ sv = .int .i64 k ∧ v8 = .bool (freeTo R done n k)) (fun sv _ => G.length - (intOf sv).toNat)
            case atStart => exact ⟨0, Nat.zero_le _, rfl, rfl⟩
            case round =>
              obtain ⟨k, hkle, rfl, rfl⟩ := hrel
              by_cases hklt : k < G.length
              · have Hs := Lib.hid (freeTo_succ R done n k)
                have hck := HV.out.bool (i := k) (by rw [Hdl.out]; exact hklt)
                obtain ⟨bk, ok, ck, hck2, hck3⟩ := Hrow.out k hklt
                have hckn := hck3 n hnlt
                have hcnk := Hcn2.out k hklt
                clear hck3
                cases hf : freeTo R done n k with
                | false =>
                  rw [hf, Bool.false_and] at Hs
                  clear hf
                  go_wp2
                  go_round
                  case rel => exact ⟨k + 1, by omega, by go_num, by rw [Hs.out]⟩
                  case measure => simp [intOf]; omega
                | true =>
                  rw [hf, Bool.true_and] at Hs
                  clear hf
                  unfold freeB at Hs
                  rw [show done.getD k false = gB done k from rfl] at hck
                  cases hdk : gB done k with
                  | true =>
                    rw [hdk] at hck Hs
                    clear hdk
                    go_wp2
                    go_round
                    case rel => exact ⟨k + 1, by omega, by go_num, by rw [Hs.out]; rfl⟩
                    case measure => simp [intOf]; omega
                  | false =>
                    rw [hdk] at hck Hs
                    clear hdk
                    generalize tb R k n = x at *
                    generalize tb R n k = y at *
                    by_cases hx : x < 0
                    · rw [decide_eq_true hx] at Hs
                      go_wp2
                      go_round
                      case rel => exact ⟨k + 1, by omega, by go_num, by rw [Hs.out]; rfl⟩
                      case measure => simp [intOf]; omega
                    · rw [decide_eq_false hx] at Hs
                      by_cases hy : 0 ≤ y
                      · rw [decide_eq_true hy] at Hs
                        go_wp2
                        go_round
                        case rel => exact ⟨k + 1, by omega, by go_num, by rw [Hs.out]; rfl⟩
                        case measure => simp [intOf]; omega
                      · rw [decide_eq_false hy] at Hs
                        go_wp2
                        go_round
                        case rel => exact ⟨k + 1, by omega, by go_num, by rw [Hs.out]; rfl⟩
                        case measure => simp [intOf]; omega
              · obtain rfl : k = G.length := by omega
                cases hf : freeTo R done n G.length with
                | false =>
                  have Hg := Lib.hid (Hi.out.pass hnlt (fun hfr => by have := ((HTb.out.free hnlt).1 hfr).2; rw [hf] at this; cases this))
                  clear hf Hi
                  go_wp2
                  go_roundg (undone done G.length * (G.length + 2) + (G.length - (n + 1)))
                  case rel => exact ⟨n + 1, done, out, by go_num, Hg.out.1, HV.out, HC4.out, HB4.out⟩
                  case measure => exact Hg.out.2
                | true =>
                  have Hg := Lib.hid (Hi.out.take HTb.out hnlt Hd.out hf)
                  clear hf Hi
                  have hag0 : Ag (fun b => b < w4.heap.size ∧ b ≠ Q) w4 w4 := Ag.refl _ _
                  have hQ4 : Q < w4.heap.size := HV.out.lt
                  go_wp2
                  go_loopw [74, 10] (fun sv v10 wr => ∃ k : Nat, k ≤ G.length ∧ sv = .int .i64 k ∧ Hid (wr.ownsRow w4.heap.size 3 1 v10 (sccTo R n k).length ((sccTo R n k).map natV)) ∧ Hid (VBlk wr Q 4 (bVs (doneTo R done n k))) ∧ Hid (Below Q w1 wr) ∧ Hid (Ag (fun b => b < w4.heap.size ∧ b ≠ Q) w4 wr) ∧ w4.heap.size ≤ wr.heap.size) (fun sv _ _ => G.length - (intOf sv).toNat)
                  case atStart => exact ⟨0, Nat.zero_le _, rfl, World.ownsRow_nil _ _ _ _, HV.out, HB4.out, hag0, Nat.le_refl _⟩
                  case round =>
                    obtain ⟨w5, rfl⟩ : ∃ w0 : World, w0 = wr := ⟨_, rfl⟩
                    obtain ⟨k, hkle2, rfl, HO5, HV5, HB5, HA5, hs5⟩ := hrel
                    obtain ⟨A10, c10, rfl⟩ := own_shape HO5.out
                    clear hcn Hcn2 Hrow
                    by_cases hklt2 : k < G.length
                    · have hag5 : Ag (fun b => D ≤ b ∧ b < w1.heap.size) w1 w5 := fun b hb => HB5.out.block b (by rw [HQ.out]; exact hb.2)
                      obtain ⟨bk, ok, ck, hck2, hck3⟩ := table_row HTb.out Hat3.out hag5 hklt2
                      obtain ⟨bn, on, cn, hcn, hcn2⟩ := table_row HTb.out Hat3.out hag5 hnlt
                      have hckn := hck3 n hnlt
                      have hcnk := hcn2 k hklt2
                      have Hs1 := Lib.hid (sccTo_succ R n k)
                      have Hs2 := Lib.hid (doneTo_succ (R := R) (D := done) (n := n) (K := k) (by rw [Hdl.out]; exact hklt2))
                      have hcd5 := HV5.out.bool (i := k) (by rw [doneTo_length, Hdl.out]; exact hklt2)
                      have hfd5 := HV5.out.frozen k
                      have hll : (sccTo R n k).length ≤ 100000 := by
                        have := List.length_filter_le (fun j => mutB R n j) (List.range k)
                        rw [List.length_range] at this
                        unfold sccTo
                        omega
                      clear hck3 hcn2 hag5
                      unfold mutB at Hs1 Hs2
                      generalize tb R k n = x at *
                      generalize tb R n k = y at *
                      by_cases hx : 0 ≤ x
                      · by_cases hy : 0 ≤ y
                        · rw [decide_eq_true hx, decide_eq_true hy, Bool.and_self, if_pos rfl] at Hs1 Hs2
                          go_wp2_with (at_builtin
                                       refine wpList_push rfl _ _ _ rfl eInt (v := .slice A10 (sccTo R n k).length c10) rfl (HO5.out.alloc _) w5.heap.size (natV k) rfl (by simp [go_sem, natV]) rfl (by omega) (by simp; omega) ?_
                                       intro v7 w7 hown7 hg7 hat7
                                       have hne7 : some Q ≠ (Value.slice A10 (sccTo R n k).length c10).ownBlock := fun e => (by have := (HO5.out.lt Q e.symm).1; omega)
                                       have hb7 := (HV5.out.alloc (.cells #[.int .i64 (k : Int)] 3)).grown hg7 hne7
                                       have hc7 := hb7.bool (i := k) (by rw [doneTo_length, Hdl.out]; exact hklt2)
                                       have hf7 := hb7.frozen k
                                       have HV7 := Lib.hid (hb7.setBool k true)
                                       have HB7 := Lib.hid (((HB5.out.alloc (by omega) (.cells #[.int .i64 (k : Int)] 3)).grown hg7 (by simp; omega) (fun b hb => by have := (HO5.out.lt b hb).1; omega)).setCell (p := ⟨Q, k, none⟩) (Nat.le_refl _) (.bool true))
                                       have hag7 : Ag (fun b => b < w4.heap.size ∧ b ≠ Q) w4 (w7.setCell ⟨Q, k, none⟩ (.bool true)) := fun b hb => (Below.heap_setCell w7 ⟨Q, k, none⟩ (.bool true) b hb.2).trans ((hg7.block b (by simp; omega) (fun e => by have := (HO5.out.lt b e.symm).1; omega)).trans ((Below.heap_alloc w5 _ b (by omega)).trans (HA5.out b hb)))
                                       have HA7 := Lib.hid hag7
                                       have hs7 : w4.heap.size ≤ w7.heap.size := (by have := hg7.size; simp at this; omega)
                                       have HO7 := Lib.hid (show (w7.setCell ⟨Q, k, none⟩ (.bool true)).ownsRow w4.heap.size 3 1 v7 (sccTo R n (k + 1)).length ((sccTo R n (k + 1)).map natV) by
                                         rw [Hs1.out, List.length_append, List.map_append]
                                         exact own_ag hown7 fun g hg => Below.heap_setCell w7 ⟨Q, k, none⟩ (.bool true) g (fun e => by have := (hown7.lt g hg).1; rw [show g = Q from e] at this; omega))
                                       clear hown7 hg7 hat7 hag7 hb7)
                          rw [← Hs2.out] at HV7
                          go_roundw
                          case rel => exact ⟨k + 1, by omega, by go_num, HO7.out, HV7.out, HB7.out, HA7.out, by rw [size_setCell]; exact hs7⟩
                          case measure => simp [intOf]; omega
                        · rw [decide_eq_true hx, decide_eq_false hy, Bool.true_and, if_neg (by simp)] at Hs1 Hs2
                          rw [List.append_nil] at Hs1
                          go_wp2
                          go_roundw
                          case rel => exact ⟨k + 1, by omega, by go_num, by rw [Hs1.out]; exact HO5.out, by rw [Hs2.out]; exact HV5.out, HB5.out, HA5.out, hs5⟩
                          case measure => simp [intOf]; omega
                      · rw [decide_eq_false hx, Bool.false_and, if_neg (by simp)] at Hs1 Hs2
                        rw [List.append_nil] at Hs1
                        go_wp2
                        go_roundw
                        case rel => exact ⟨k + 1, by omega, by go_num, by rw [Hs1.out]; exact HO5.out, by rw [Hs2.out]; exact HV5.out, HB5.out, HA5.out, hs5⟩
                        case measure => simp [intOf]; omega
                    · obtain rfl : k = G.length := by omega
                      obtain ⟨xs, hox, hrx⟩ := HC4.out.keep RNats.stable hs5 (fun i hi hlt => HA5.out i ⟨hlt, by omega⟩)
                      have Hox := Lib.hid hox; have Hrx := Lib.hid hrx
                      have Hu := Lib.hid (show RNats w5 (Oth w5 (Q + 1) (.slice A6 out.length c6)) (.slice A10 (sccTo R n G.length).length c10) (sccTo R n G.length) from
                        nats_of_own HO5.out (fun g hg => ⟨by have := (HO5.out.lt g hg).1; omega, (HO5.out.lt g hg).2, fun e => by
                          obtain ⟨ys, hoy⟩ := HC4.out.own
                          have h1 := (hoy.lt g e).2
                          have h2 := (HO5.out.lt g hg).1
                          omega⟩))
                      have hol : out.length < 100000 := by have := Hg.out.2.2; omega
                      clear hox hrx hcd hklt hklt2 hkle hkle2
                      go_wp2_with (at_builtin
                                   refine wpList_push rfl _ _ _ rfl eRow (v := .slice A6 out.length c6) rfl (Hox.out.alloc _) w5.heap.size (.slice A10 (sccTo R n G.length).length c10) rfl (by simp [go_sem]) rfl (by omega) (by simp; omega) ?_
                                   intro v7 w7 hown7 hg7 hat7
                                   have HC7 := Lib.hid (RowsC.snoc RNats.stable Hox.out Hrx.out Hu.out (below_alloc _ _) hg7 hown7 hat7)
                                   have HV7 := Lib.hid ((HV5.out.alloc (.cells #[.slice A10 (sccTo R n G.length).length c10] 25)).grown hg7 (fun e => by have := (Hox.out.lt Q e.symm).1; omega))
                                   have HB7 := Lib.hid ((HB5.out.alloc (by omega) (.cells #[.slice A10 (sccTo R n G.length).length c10] 25)).grown hg7 (by simp; omega) (fun b hb => by have := (Hox.out.lt b hb).1; omega))
                                   clear hown7 hg7 hat7)
                      go_roundg (undone (doneTo R done n G.length) G.length * (G.length + 2) + (G.length - 0))
                      case rel => exact ⟨0, _, _, by go_num, Hg.out.1, HV7.out, HC7.out, HB7.out⟩
                      case measure => exact Hg.out.2.1
        · obtain rfl : n = G.length := by omega
          have HF := Lib.hid (Hi.out.2.2.1.final Hi.out.2.2.2.1)
          go_wp2
          go_ret
          exact ⟨_, out, rfl, RNatss.stable.sub (HC4.out.reads RNats.stable) (fun b hb => hb.2), HF.out, HB.out.trans (HB4.out.mono (by rw [HQ.out]; exact HB.out.size))⟩
end Go.Proofs.Ytjmenkjmghmkpaa
