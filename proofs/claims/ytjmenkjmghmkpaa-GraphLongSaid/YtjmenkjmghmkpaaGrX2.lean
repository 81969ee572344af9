/- graph.Groups. -/
import Derived.Test.YtjmenkjmghmkpaaGrX1
import Derived.Test.YtjmenkjmghmkpaaRowsB
import Derived.Test.YtjmenkjmghmkpaaGrE1
namespace Go.Proofs.Ytjmenkjmghmkpaa
open Go.RowKit
open G22

theorem May_any' (G : Gr) (v : Value) (w : World) {B : Nat} (hs : RNatss w (Lt B) v G) (hG : okG G) : Calls Try.prog 12 #[v] w fun e w' => e = .returned (.bool true) ∧ w = w' := by
  have := May_any v _ w (intss_of_natss hs)
  rw [mayG_of hG] at this
  exact this
/-- What stands where all is made. -/
structure GrpAt (D bg b3 O bI b6 N count : Nat) (gv : Value) (grp : List Nat) (w wx : World) : Prop where
  vg : VBlk wx D 22 [gv]
  v2 : VBlk wx bg 3 (nVs grp)
  v3 : VBlk wx b3 25 [slN bg N]
  vO : VBlk wx O 25 (List.replicate count (.slice none 0 0))
  vI : VBlk wx bI 3 (nVs (List.replicate count 0))
  v6 : VBlk wx b6 25 [slN bI count]
  lt : D < b3 ∧ bg < b3 ∧ b3 < O ∧ b3 < bI ∧ b3 < b6 ∧ O ≠ bI ∧ O ≠ b6 ∧ bI ≠ b6 ∧ D < bg
  below : Below D w wx
def mkO (n bI : Nat) (i : Nat) : Obj := if i = 1 then .cells (madeCells #[.slice none 0 0] n) 25 else if i = 3 then .cells (madeCells #[.int .i64 0] n) 3 else .cells #[slN bI n] 25
theorem G22.Nums.count_le {G : Gr} {grp : List Nat} {count : Nat} (h : Nums G grp count) : count ≤ G.length := by
  obtain ⟨l, hl, hp⟩ := choose_list (n := count) (p := fun c x => x < G.length ∧ gN grp x = c) h.used
  have hm : l.map (gN grp) = List.range count := by
    refine List.ext_getElem (by simp [hl]) fun i h1 h2 => ?_
    rw [List.getElem_map, List.getElem_range]
    exact (hp i (by simpa using h1)).2
  have hd : l.Nodup := List.Pairwise.of_map (S := (· ≠ ·)) (gN grp) (fun a b hab e => hab (by rw [e])) (by rw [hm]; exact List.nodup_range)
  have := nodup_le hd fun x hx => by
    obtain ⟨i, hi, rfl⟩ := List.getElem_of_mem hx
    exact (hp i hi).1
  omega
theorem Fresh.none (I : List Nat) (o : Nat → Obj) (w0 : World) : Fresh I o w0 (fun _ => false) (fun _ => 0) w0 :=
  ⟨Nat.le_refl _, fun _ _ => rfl, ⟨rfl, rfl, rfl⟩, fun i _ h => by simp at h, fun i _ j _ h => by simp at h⟩
theorem grp_at {w w3 w4 : World} {D bg b3 N count O bI b6 : Nat} {gv : Value} {grp : List Nat} {m : Nat → Bool} {blk : Nat → Nat} (h : Fresh [1, 3, 4] (mkO count bI) w3 m blk w4) (hm : m 1 = true ∧ m 3 = true ∧ m 4 = true) (e1 : blk 1 = O) (e3 : blk 3 = bI) (e4 : blk 4 = b6)
    (hg : VBlk w3 D 22 [gv]) (h2 : VBlk w3 bg 3 (nVs grp)) (h3 : VBlk w3 b3 25 [slN bg N]) (hz : w3.heap.size = b3 + 1) (hD : D < b3) (hb : bg < b3) (hDb : D < bg) (hB : Below D w w3) :
    GrpAt D bg b3 O bI b6 N count gv grp w w4.drew := by
  obtain ⟨m1, m3, m4⟩ := hm
  obtain ⟨a1, c1, d1⟩ := h.at_ 1 (by simp) m1
  obtain ⟨a3, c3, d3⟩ := h.at_ 3 (by simp) m3
  obtain ⟨a4, c4, d4⟩ := h.at_ 4 (by simp) m4
  have n13 := h.ne 1 (by simp) 3 (by simp) m1 m3 (by simp)
  have n14 := h.ne 1 (by simp) 4 (by simp) m1 m4 (by simp)
  have n34 := h.ne 3 (by simp) 4 (by simp) m3 m4 (by simp)
  rw [e1] at a1 c1 d1 n13 n14
  rw [e3] at a3 c3 d3 n13 n34
  rw [e4] at a4 c4 d4 n14 n34
  rw [hz] at a1 a3 a4
  have k : ∀ {b : Nat} {t : TypeId} {vs : List Value}, b < b3 + 1 → VBlk w3 b t vs → VBlk w4.drew b t vs := fun {b t vs} hb' hv => (h.keep b (by rw [hz]; exact hb')).trans hv
  exact ⟨k (by omega) hg, k (by omega) h2, k (by omega) h3, vblk_obj d1, (by rw [show nVs (List.replicate count 0) = List.replicate count (.int .i64 0) by simp [nVs, natV]]; exact vblk_obj d3), d4, ⟨hD, hb, by omega, by omega, by omega, by omega, by omega, by omega, hDb⟩, hB.trans (⟨h.env.1, h.env.2.1, h.env.2.2, h.size, fun b hb' => h.keep b (by rw [hz]; omega)⟩ : Below D w3 w4.drew)⟩
structure KeptB (O base : Nat) (w w' : World) : Prop where
  os : w'.os = w.os
  tape : w'.tape = w.tape
  output : w'.output = w.output
  size : w.heap.size ≤ w'.heap.size
  block : ∀ b, b < base → b ≠ O → w'.heap[b]? = w.heap[b]?
theorem KeptB.refl (O base : Nat) (w : World) : KeptB O base w w := ⟨rfl, rfl, rfl, Nat.le_refl _, fun _ _ _ => rfl⟩
theorem KeptB.trans {O base : Nat} {a b c : World} (h : KeptB O base a b) (k : KeptB O base b c) : KeptB O base a c := ⟨k.os.trans h.os, k.tape.trans h.tape, k.output.trans h.output, Nat.le_trans h.size k.size, fun i hi hn => (k.block i hi hn).trans (h.block i hi hn)⟩
theorem KeptB.push {O base k : Nat} {w w7 : World} {ob : Obj} {v' : Value} {row : Option Nat} (hb : base ≤ w.heap.size) (hg : (w.alloc ob).grownBy w7 row) (hr : ∀ b, row = some b → base ≤ b) : KeptB O base w (w7.setCell ⟨O, k, none⟩ v') :=
  ⟨hg.os, hg.tape, hg.output, by have := hg.size; simp at this; simp [World.setCell]; omega, fun b hb' hn => (Below.heap_setCell w7 ⟨O, k, none⟩ v' b hn).trans ((hg.block b (by simp; omega) fun e => by have := hr b e.symm; omega).trans (Below.heap_alloc w ob b (by omega)))⟩
def rowsOf (grp : List Nat) (count n : Nat) : List (List Nat) := (List.range count).map (nodesTo grp n)
theorem rowsOf_length (grp : List Nat) (count n : Nat) : (rowsOf grp count n).length = count := by simp [rowsOf]
theorem rowsOf_get {grp : List Nat} {count n k : Nat} (h : k < (rowsOf grp count n).length) : (rowsOf grp count n)[k] = nodesTo grp n k := by simp [rowsOf]
theorem rowsOf_first (grp : List Nat) (count : Nat) : rowsOf grp count 0 = List.replicate count [] := by
  refine List.ext_getElem (by simp [rowsOf]) fun i h1 h2 => ?_
  simp [rowsOf, nodesTo]
theorem rowsOf_step (grp : List Nat) (count n : Nat) : (rowsOf grp count n).set (gN grp n) (nodesTo grp n (gN grp n) ++ [n]) = rowsOf grp count (n + 1) := by
  refine List.ext_getElem (by simp [rowsOf]) fun i h1 h2 => ?_
  rw [List.getElem_set]
  split
  · next e => subst e; rw [rowsOf_get, nodesTo_succ, if_pos rfl]
  · next e => rw [rowsOf_get, rowsOf_get, nodesTo_succ, if_neg e, List.append_nil]
theorem nodesTo_le (grp : List Nat) (n c : Nat) : (nodesTo grp n c).length ≤ n := Nat.le_trans (List.length_filter_le _ _) (by simp)
/-- Nothing below base is changed but blocks bI and bD. -/
structure Kp (bI bD base : Nat) (w w' : World) : Prop where
  os : w'.os = w.os
  tape : w'.tape = w.tape
  output : w'.output = w.output
  size : w.heap.size ≤ w'.heap.size
  block : ∀ b, b < base → b ≠ bI → b ≠ bD → w'.heap[b]? = w.heap[b]?
theorem Kp.refl (bI bD base : Nat) (w : World) : Kp bI bD base w w := ⟨rfl, rfl, rfl, Nat.le_refl _, fun _ _ _ _ => rfl⟩
theorem Kp.trans {bI bD base : Nat} {a b c : World} (h : Kp bI bD base a b) (k : Kp bI bD base b c) : Kp bI bD base a c := ⟨k.os.trans h.os, k.tape.trans h.tape, k.output.trans h.output, Nat.le_trans h.size k.size, fun i hi hn hm => (k.block i hi hn hm).trans (h.block i hi hn hm)⟩
theorem At1.kp {bI bD base : Nat} {a b : World} (h : At1 bI a b) : Kp bI bD base a b := ⟨h.os, h.tape, h.output, Nat.le_of_eq h.size.symm, fun i _ hn _ => h.block i hn⟩
theorem Kp.drewN {bI bD base : Nat} {a b : World} (h : Kp bI bD base a b) (n : Nat) : Kp bI bD base a (b.drewN n) := ⟨h.os, h.tape, h.output, h.size, h.block⟩
theorem node_cells {w : World} {S : Nat → Prop} {O count N k : Nat} {grp : List Nat} (h : RNatss w S (slN O count) (rowsOf grp count N)) (hk : k < count) (hp : 0 < (nodesTo grp N k).length) :
    ∃ b o c, w.cell? ⟨O, k, none⟩ = some (.slice (some ⟨b, o, none⟩) (nodesTo grp N k).length c) ∧ w.cell? ⟨b, o, none⟩ = some (.int .i64 (gN (nodesTo grp N k) 0 : Nat)) ∧ S b ∧ RAt RNat w S (some ⟨b, o, none⟩) (nodesTo grp N k) ∧ RNats w S (.slice (some ⟨b, o, none⟩) (nodesTo grp N k).length c) (nodesTo grp N k) := by
  obtain ⟨A, c, e, _, hat⟩ := h.open_
  rw [rowsOf_length] at e
  cases e
  have hkl : k < (rowsOf grp count N).length := by rw [rowsOf_length]; exact hk
  obtain ⟨b', o', u, e, _, hc, hu⟩ := hat.at_ RNats.stable (Ag.refl _ _) hkl
  cases e
  rw [rowsOf_get] at hu
  have hu0 := hu
  obtain ⟨A2, c2, rfl, _, hat2⟩ := hu.open_
  obtain ⟨b, o, u2, rfl, hb, hc2, hu2⟩ := hat2.at_ RNat.stable (Ag.refl _ _) hp
  obtain rfl := hu2
  refine ⟨b, o, c2, by rw [← hc]; simp, ?_, hb, hat2, hu0⟩
  rw [show (⟨b, o, none⟩ : Addr) = ⟨b, o + 0, none⟩ from rfl, hc2]
  simp [natV, gN, List.getD, hp]
theorem gN_dropL_le {G : Gr} {grp : List Nat} {D : List Bool} {ns : List Nat} {m n i j c count : Nat} (h : ∀ a, (row G a).length ≤ m) : gN (dropL G grp D ns count n i j) c ≤ (G.length + ns.length + 1) * m := by
  by_cases hc : c < count
  · rw [dropL, getD_map_range _ hc]
    unfold dropTo
    have h1 := midTo_le (grp := grp) (D := D) (c := c) h
    have h2 := sumN_le (l := ns.drop (i + 1)) (f := fun a => cross G grp a c) fun a => cross_le h
    have h3 : ((row G n).drop j).countP (fun b => gN grp b == c && gN grp n != c) ≤ (row G n).length := Nat.le_trans List.countP_le_length (by simp)
    have h4 := h n
    have h5 : (ns.drop (i + 1)).length * m ≤ ns.length * m := Nat.mul_le_mul_right _ (by simp)
    rw [Nat.add_mul, Nat.add_mul, Nat.one_mul]
    omega
  · unfold gN List.getD; rw [List.getElem?_eq_none (by rw [dropL_length]; omega)]; exact Nat.zero_le _
theorem Kp.push {bI bD k : Nat} {w w7 : World} {ob : Obj} {v' : Value} {row : Option Nat} (hb : bD + 1 ≤ w.heap.size) (hg : ((w.setCell ⟨bD, k, none⟩ v').alloc ob).grownBy w7 row) (hr : ∀ b, row = some b → bD + 1 ≤ b) : Kp bI bD (bD + 1) w w7 :=
  ⟨hg.os, hg.tape, hg.output, by have := hg.size; simp at this; omega, fun b hb' _ hn => (hg.block b (by simp; omega) fun e => by have := hr b e.symm; omega).trans ((Below.heap_alloc _ ob b (by simp; omega)).trans (Below.heap_setCell w ⟨bD, k, none⟩ v' b hn))⟩
set_option maxRecDepth 100000 in
set_option maxHeartbeats 4000000 in
theorem Groups_any (G : Gr) (w : World) (Ag0 : Option Addr) (cg : Nat) (hs : RNatss w (Lt w.heap.size) (.slice Ag0 G.length cg) G) (hG : okG G) (hlen : G.length ≤ 100000) (hr : ∀ a, (row G a).length ≤ 100000) :
    Calls Try.prog 19 #[.slice Ag0 G.length cg] w (GroupsPost G w) := by
  have HG := Lib.hid hG
  have Hr := Lib.hid hr
  have Hs := Lib.hid hs
  obtain ⟨D, hD⟩ : ∃ D, D = w.heap.size := ⟨_, rfl⟩
  have HD := Lib.hid hD
  have Hb1 := Lib.hid (below_alloc w (.cells #[.slice Ag0 G.length cg] 22))
  have Hv1 := Lib.hid (vblk_new w 22 #[.slice Ag0 G.length cg])
  have hz1 : (w.alloc (.cells #[.slice Ag0 G.length cg] 22)).heap.size = D + 1 := by simp [hD]
  have Hs1 := Lib.hid (RNatss.stable.below hs Hb1.out)
  rw [← hD] at Hs Hb1 Hv1 Hs1
  clear hs hG hr
  go_enter Try.func19, Try.ntmps19
  have Hgr := Lib.hid (groups_any enter_said G (w.alloc (.cells #[.slice Ag0 G.length cg] 22)) Ag0 cg (RNatss.stable.sub Hs1.out (fun b (hb : b < D) => (by show b < _; omega))) HG.out hlen Hr.out)
  go_wp2_with (first
    | (go_at_call 12; refine (May_any' G _ _ Hs1.out HG.out).mono ?_; rintro e w2 ⟨rfl, rfl⟩)
    | (go_at_call 33; refine Hgr.out.mono ?_; rintro e w2 ⟨grp, count, bg, rfl, hn, hv, hbg, hb⟩))
  have HN := Lib.hid hn
  have hcount := hn.count_le
  have hbl := hv.lt
  have Hv2 := Lib.hid (hv.alloc (.cells #[slN bg G.length] 25))
  have Hv3 := Lib.hid (show VBlk (w2.alloc (.cells #[slN bg G.length] 25)) w2.heap.size 25 [slN bg G.length] from vblk_new _ _ _)
  have Hb2 := Lib.hid ((Hb1.out.trans (hb.mono (by omega))).alloc (by have := Hb1.out.size; have := hb.size; omega) (.cells #[slN bg G.length] 25))
  have Hv1' := Lib.hid (Hv1.out.below (hb.alloc hb.size (.cells #[slN bg G.length] 25)) (by omega))
  have hD2 : D < w2.heap.size := by have := hb.size; omega
  have hz2 : (w2.alloc (.cells #[slN bg G.length] 25)).heap.size = w2.heap.size + 1 := by simp
  have hbg1 : D < bg := by omega
  have HDD := Lib.hid hD
  clear hn hv hbg hb Hgr Hv1 Hs1 Hb1 hz1
  rw [← hD]
  clear hD
  generalize w2.alloc (.cells #[slN bg G.length] 25) = w3 at *
  generalize w2.heap.size = b3 at *
  go_upto_region 4 with (fail)
  go_cut [5, 6] (fun v5 v6 wx => ∃ O bI b6, v5 = slN O count ∧ v6 = .pointer (some ⟨b6, 0, none⟩) ∧ Hid (GrpAt D bg b3 O bI b6 G.length count (.slice Ag0 G.length cg) grp w wx))
  case first =>
    have hmk1 := run_makeRows count (by omega)
    have hmk2 := run_makeInts count (by omega)
    go_region
    all_goals
      go_wp2
      go_meet
    all_goals
      first
        | exact ⟨b3 + 1, b3 + 1 + 1, b3 + 1 + 1 + 1, rfl, rfl, grp_at ((((Fresh.none [1, 3, 4] (mkO count (b3 + 1 + 1)) w3).add (i := 1) rfl).add (i := 3) rfl).add (i := 4) rfl) ⟨rfl, rfl, rfl⟩ (by simp [upd, hz2]) (by simp [upd, hz2]) (by simp [upd, hz2]) Hv1'.out Hv2.out Hv3.out hz2 hD2 hbl hbg1 Hb2.out⟩
        | exact ⟨b3 + 1, b3 + 1 + 1 + 1, b3 + 1 + 1, rfl, rfl, grp_at ((((Fresh.none [1, 3, 4] (mkO count (b3 + 1 + 1 + 1)) w3).add (i := 1) rfl).add (i := 4) rfl).add (i := 3) rfl) ⟨rfl, rfl, rfl⟩ (by simp [upd, hz2]) (by simp [upd, hz2]) (by simp [upd, hz2]) Hv1'.out Hv2.out Hv3.out hz2 hD2 hbl hbg1 Hb2.out⟩
        | exact ⟨b3 + 1 + 1, b3 + 1, b3 + 1 + 1 + 1, rfl, rfl, grp_at ((((Fresh.none [1, 3, 4] (mkO count (b3 + 1)) w3).add (i := 3) rfl).add (i := 1) rfl).add (i := 4) rfl) ⟨rfl, rfl, rfl⟩ (by simp [upd, hz2]) (by simp [upd, hz2]) (by simp [upd, hz2]) Hv1'.out Hv2.out Hv3.out hz2 hD2 hbl hbg1 Hb2.out⟩
        | exact ⟨b3 + 1 + 1 + 1, b3 + 1, b3 + 1 + 1, rfl, rfl, grp_at ((((Fresh.none [1, 3, 4] (mkO count (b3 + 1)) w3).add (i := 3) rfl).add (i := 4) rfl).add (i := 1) rfl) ⟨rfl, rfl, rfl⟩ (by simp [upd, hz2]) (by simp [upd, hz2]) (by simp [upd, hz2]) Hv1'.out Hv2.out Hv3.out hz2 hD2 hbl hbg1 Hb2.out⟩
        | exact ⟨b3 + 1 + 1, b3 + 1 + 1 + 1, b3 + 1, rfl, rfl, grp_at ((((Fresh.none [1, 3, 4] (mkO count (b3 + 1 + 1 + 1)) w3).add (i := 4) rfl).add (i := 1) rfl).add (i := 3) rfl) ⟨rfl, rfl, rfl⟩ (by simp [upd, hz2]) (by simp [upd, hz2]) (by simp [upd, hz2]) Hv1'.out Hv2.out Hv3.out hz2 hD2 hbl hbg1 Hb2.out⟩
        | exact ⟨b3 + 1 + 1 + 1, b3 + 1 + 1, b3 + 1, rfl, rfl, grp_at ((((Fresh.none [1, 3, 4] (mkO count (b3 + 1 + 1)) w3).add (i := 4) rfl).add (i := 3) rfl).add (i := 1) rfl) ⟨rfl, rfl, rfl⟩ (by simp [upd, hz2]) (by simp [upd, hz2]) (by simp [upd, hz2]) Hv1'.out Hv2.out Hv3.out hz2 hD2 hbl hbg1 Hb2.out⟩
  case rest =>
    obtain ⟨w4, rfl⟩ : ∃ w0 : World, w0 = wc := ⟨_, rfl⟩
    obtain ⟨O, bI, b6, rfl, rfl, HA⟩ := hcut
    clear Hv2 Hv3 Hb2 Hv1' hz2
    obtain ⟨l1, l2, l3, l4, l5, n1, n2, n3, l6⟩ := HA.out.lt
    obtain ⟨base, hbase⟩ : ∃ base, base = w4.heap.size := ⟨_, rfl⟩
    have hOb : O < base := by rw [hbase]; exact HA.out.vO.lt
    have hIb : bI < base := by rw [hbase]; exact HA.out.vI.lt
    have h6b : b6 < base := by rw [hbase]; exact HA.out.v6.lt
    have HR0 := Lib.hid (RowsB.made (f := natV) (ei := 3) HA.out.vO hOb)
    rw [← rowsOf_first grp count] at HR0
    have hc3 := HA.out.v3.cell (i := 0) rfl
    have Hbase := Lib.hid (Nat.le_of_eq hbase)
    clear hbase
    go_wp2
    clear hc3
    go_loopw [31] (fun sv wr => ∃ (n : Nat) (vs : List Value), n ≤ G.length ∧ sv = .int .i64 n ∧ Hid (RowsB natV wr O base 25 3 vs (rowsOf grp count n)) ∧ Hid (KeptB O base w4 wr)) (fun sv _ => G.length - (intOf sv).toNat)
    case atStart => exact ⟨0, _, Nat.zero_le _, rfl, HR0.out, KeptB.refl _ _ _⟩
    case round =>
      obtain ⟨w5, rfl⟩ : ∃ w0 : World, w0 = wr := ⟨_, rfl⟩
      obtain ⟨n, vs, hnle, rfl, HR, HK⟩ := hrel
      by_cases hnlt : n < G.length
      · have hlen5 : n < grp.length := by rw [HN.out.len]; exact hnlt
        have hcn := (show VBlk w5 bg 3 (nVs grp) from (HK.out.block bg (by omega) (by omega)).trans HA.out.v2).nat hlen5
        have hk : gN grp n < count := HN.out.lt n hnlt
        obtain ⟨k, hkk⟩ : ∃ k, k = gN grp n := ⟨_, rfl⟩
        rw [← hkk] at hcn hk
        have hkl : k < (rowsOf grp count n).length := by rw [rowsOf_length]; exact hk
        obtain ⟨At, ct, hvt, hct, Ht⟩ := HR.out.row hkl
        have Hl := Lib.hid (List.getElem?_eq_getElem hkl)
        rw [rowsOf_get] at hct Ht hvt Hl
        have hll := nodesTo_le grp n k
        obtain ⟨l, hl⟩ : ∃ l, l = nodesTo grp n k := ⟨_, rfl⟩
        have HS := Lib.hid (rowsOf_step grp count n)
        rw [← hkk, ← hl] at HS
        rw [← hl] at hct Ht hvt Hl hll
        have hfrz := HR.out.blk.frozen k
        have Hown := Lib.hid Ht
        have Hvt := Lib.hid hvt
        have Hbs := Lib.hid (show base ≤ w5.heap.size from Nat.le_trans Hbase.out HK.out.size)
        have Hne := Lib.hid (show some O ≠ (Value.slice At l.length ct).ownBlock from fun e => by have := (Ht.lt O e.symm).1; omega)
        clear hl hkk Ht hvt hlen5
        go_wp2_with (at_builtin; refine wpList_push rfl _ _ _ rfl eInt (v := .slice At l.length ct) rfl (Hown.out.alloc _) w5.heap.size (natV n) rfl (by simp [go_sem, natV]) rfl (by omega) (by simp; have := Hbs.out; omega) ?_; intro v7 w7 hown7 hg7 hat7; obtain ⟨A7, c7, rfl⟩ := own_shape hown7; have hb7 := (HR.out.blk.alloc _).grown hg7 Hne.out; have hc7 := hb7.cell Hvt.out; have hf7 := hb7.frozen k; have Hg7 := Lib.hid hg7; have Hown7 := Lib.hid hown7; have Hat7 := Lib.hid hat7; clear hg7 hown7 hat7 hb7)
        have HV7 := Lib.hid (HR.out.push Hvt.out Hl.out (fun i hi => Below.heap_alloc _ _ i hi) (by simp) Hg7.out Hown7.out Hat7.out)
        rw [HS.out] at HV7
        have HK7 := Lib.hid (HK.out.trans (KeptB.push (k := k) (v' := .slice A7 (l.length + 1) c7) Hbs.out Hg7.out (fun b hb => (Hown.out.lt b hb).1)))
        clear Hg7 Hown7 Hat7 hc7 hf7
        go_roundw
        case rel => exact ⟨n + 1, _, by omega, by go_num, HV7.out, HK7.out⟩
        case measure => simp [intOf]; omega
      · obtain rfl : n = G.length := by omega
        have HNo := Lib.hid (show RNatss w5 (fun b => b = O ∨ (base ≤ b ∧ b < w5.heap.size)) (slN O count) (rowsOf grp count G.length) by
          have := HR.out.reads (R := RNat) (fun _ _ _ => rfl) (S := fun b => b = O ∨ (base ≤ b ∧ b < w5.heap.size)) (.inl rfl) (fun b h1 h2 => .inr ⟨h1, h2⟩) (by rw [rowsOf_length]; omega)
          rwa [rowsOf_length] at this)
        have HG5 := Lib.hid (RNatss.stable.agree (RNatss.stable.below Hs.out HA.out.below) (fun b (hb : b < D) => HK.out.block b (by omega) (by omega)))
        have V : ∀ {b : Nat} {t : TypeId} {vs : List Value}, b < base → b ≠ O → VBlk w4 b t vs → VBlk w5 b t vs := fun {b t vs} hb hn hv => (HK.out.block b hb hn).trans hv
        have Hv1 := Lib.hid (V (by omega) (by omega) HA.out.vg)
        have Hv2 := Lib.hid (V (by omega) (by omega) HA.out.v2)
        have Hv3 := Lib.hid (V (by omega) (by omega) HA.out.v3)
        have Hv6 := Lib.hid (V h6b (by omega) HA.out.v6)
        have Hac := Lib.hid (across_any G grp count D D b3 b6 bg bI cg Ag0 w5 HN.out HG5.out HG.out (Hv1.out.cell (i := 0) rfl) (Hv3.out.cell (i := 0) rfl) (Hv6.out.cell (i := 0) rfl) Hv2.out (V hIb (by omega) HA.out.vI) (by omega) hlen Hr.out (by omega))
        have HB5 := Lib.hid (HA.out.below.trans (⟨HK.out.os, HK.out.tape, HK.out.output, HK.out.size, fun b hb => HK.out.block b (by omega) (by omega)⟩ : Below D w4 w5))
        have hbs : base ≤ w5.heap.size := Nat.le_trans Hbase.out HK.out.size
        have hcf := cf34
        have hmkb := run_makeBools count (by omega)
        clear V HR HK HA HR0 Hbase hnle hnlt
        go_wp2_with (refine Hac.out.mono ?_; rintro e w6 ⟨rfl, hI6, hA6⟩; rw [crossL_all] at hI6; have HI6 := Lib.hid hI6; have HA6 := Lib.hid hA6; clear hI6 hA6)
        have hz6 : w6.heap.size = w5.heap.size := HA6.out.size
        obtain ⟨bD, hbD⟩ : ∃ bD, bD = w6.heap.size := ⟨_, rfl⟩
        have hbDb : base ≤ bD := by omega
        have V : ∀ {b : Nat} {t : TypeId} {vs : List Value}, b ≠ bI → VBlk w5 b t vs → VBlk (w6.alloc (.cells (madeCells #[.bool false] count) 4)) b t vs := fun {b t vs} hn hv => VBlk.alloc ((HA6.out.block b hn).trans hv : VBlk w6 b t vs) _
        have A7 : ∀ {S : Nat → Prop}, (∀ b, S b → b ≠ bI ∧ b < bD) → Ag S w5 (w6.alloc (.cells (madeCells #[.bool false] count) 4)) := fun {S} h b hb => (Below.heap_alloc w6 _ b (by rw [← hbD]; exact (h b hb).2)).trans (HA6.out.block b (h b hb).1)
        have Hw1 := Lib.hid (V (by omega) Hv1.out)
        have Hw2 := Lib.hid (V (by omega) Hv2.out)
        have Hw3 := Lib.hid (V (by omega) Hv3.out)
        have Hw6 := Lib.hid (V (by omega) Hv6.out)
        have HIw := Lib.hid (HI6.out.alloc (.cells (madeCells #[.bool false] count) 4))
        have HDw := Lib.hid (show VBlk (w6.alloc (.cells (madeCells #[.bool false] count) 4)) bD 4 (bVs (List.replicate count false)) by
          have := vblk_made w6 4 (.bool false) count
          unfold bVs
          rw [hbD]
          rwa [List.map_replicate])
        have HNw := Lib.hid (show RNatss _ (fun b => b = O ∨ (base ≤ b ∧ b < bD)) _ _ from RNatss.stable _ _ _ _ _ _ HNo.out (A7 fun b hb => by rcases hb with rfl | hb <;> omega) fun b hb => by rcases hb with rfl | hb; exact .inl rfl; exact .inr (by omega))
        have HGw := Lib.hid (RNatss.stable.agree HG5.out (A7 (S := Lt D) fun b (hb : b < D) => by omega))
        have HBw := Lib.hid ((HB5.out.trans (HA6.out.below (by omega))).alloc (show D ≤ w6.heap.size by omega) (.cells (madeCells #[.bool false] count) 4))
        have hz7 : (w6.alloc (.cells (madeCells #[.bool false] count) 4)).heap.size = bD + 1 := by simp [hbD]
        rw [← hbD]
        clear V A7 Hv1 Hv2 Hv3 Hv6 HNo HG5 HB5 HI6 HA6 Hac hmkb hbD hz6 hbs
        generalize w6.alloc (.cells (madeCells #[.bool false] count) 4) = w7 at *
        go_loopw [54, 2] (fun sv v2 wr => ∃ (t : Nat) (Dn : List Bool) (out : List (List Nat)), t ≤ count ∧ sv = .int .i64 t ∧ Hid (GI G grp count t Dn out) ∧ Hid (RowsS RNats wr (fun b => b = O ∨ (base ≤ b ∧ b < bD)) (bD + 1) 25 v2 out) ∧ Hid (VBlk wr bD 4 (bVs Dn)) ∧ Hid (VBlk wr bI 3 (nVs (restL G grp Dn count))) ∧ Hid (Kp bI bD (bD + 1) w7 wr)) (fun sv _ _ => count - (intOf sv).toNat)
        case atStart => exact ⟨0, _, [], Nat.zero_le _, rfl, GI.start G grp count, RowsS.nil_ _ _ _ _ _, HDw.out, HIw.out, Kp.refl _ _ _ _⟩
        case round =>
          obtain ⟨w8, rfl⟩ : ∃ w0 : World, w0 = wr := ⟨_, rfl⟩
          obtain ⟨t, Dn, out, htle, rfl, HGI, HR, HVD, HVI, HKp⟩ := hrel
          by_cases htlt : t < count
          · obtain ⟨A2, c2, rfl⟩ := HR.out.shape
            have HN8 := Lib.hid (RNatss.stable.agree HNw.out (fun b hb => HKp.out.block b (by rcases hb with rfl | hb <;> omega) (by rcases hb with rfl | hb <;> omega) (by rcases hb with rfl | hb <;> omega)))
            have hc6 := (show VBlk w8 b6 25 _ from (HKp.out.block b6 (by omega) (by omega) (by omega)).trans Hw6.out).cell (i := 0) rfl
            have hDl : Dn.length = count := HGI.out.1
            have HDl := Lib.hid hDl
            have Hnode := Lib.hid (fun (k : Nat) (hk : k < count) => node_cells HN8.out hk (nodes_some HN.out hk).1)
            clear hDl
            go_wp2
            go_loopw [57, 11] (fun sv v11 wr => ∃ K : Nat, K ≤ count ∧ sv = .int .i64 K ∧ v11 = .int .i64 (bestI (firstOf G grp) (freeOf G grp Dn) K) ∧ ∃ m, wr = w8.drewN m) (fun sv _ _ => count - (intOf sv).toNat)
            case atStart => exact ⟨0, Nat.zero_le _, rfl, rfl, 0, rfl⟩
            case round =>
              obtain ⟨K, hKle, rfl, rfl, m, rfl⟩ := hrel
              by_cases hKlt : K < count
              · have hcd := HVD.out.bool (i := K) (by rw [HDl.out]; exact hKlt)
                rw [show Dn.getD K false = gB Dn K from rfl] at hcd
                have hci := HVI.out.nat (i := K) (by rw [restL_length]; exact hKlt)
                rw [restL, getD_map_range _ hKlt] at hci
                obtain ⟨bk, ok, ck, hck, hck0, _, _, _⟩ := Hnode.out K hKlt
                have Hb : Hid (bestI (firstOf G grp) (freeOf G grp Dn) (K + 1) = if freeOf G grp Dn K = true ∧ (bestI (firstOf G grp) (freeOf G grp Dn) K < 0 ∨ firstOf G grp K < firstOf G grp (bestI (firstOf G grp) (freeOf G grp Dn) K).toNat) then (K : Int) else bestI (firstOf G grp) (freeOf G grp Dn) K) := rfl
                have hfr : freeOf G grp Dn K = (!gB Dn K && rest G grp Dn K == 0) := rfl
                obtain ⟨x, hx⟩ : ∃ x, x = bestI (firstOf G grp) (freeOf G grp Dn) K := ⟨_, rfl⟩
                have hxs := bestI_lt (firstOf G grp) (freeOf G grp Dn) K
                rw [← hx] at Hb hxs ⊢
                have Hx := Lib.hid hx
                have hf0 : gN (nodesTo grp G.length K) 0 = firstOf G grp K := rfl
                rw [hf0] at hck0
                clear hx hf0
                cases hd : gB Dn K with
                | true =>
                  rw [hd] at hcd hfr
                  have hfr' : freeOf G grp Dn K = false := hfr
                  rw [hfr', if_neg (by simp)] at Hb
                  clear hfr hfr' hd hxs
                  go_wp2
                  go_quiet (fail)
                  go_wp2
                  go_roundw
                  case rel => exact ⟨K + 1, by omega, by go_num, by rw [Hb.out], _, rfl⟩
                  case measure => simp [intOf]; omega
                | false =>
                  rw [hd] at hcd hfr
                  clear hd
                  have hpK : 0 < (nodesTo grp G.length K).length := (nodes_some HN.out hKlt).1
                  by_cases hz : rest G grp Dn K = 0
                  · rw [hz] at hci hfr
                    have hfr' : freeOf G grp Dn K = true := hfr
                    have hci0 : w8.cell? ⟨bI, K, none⟩ = some (.int .i64 0) := hci
                    rw [hfr'] at Hb
                    clear hfr hfr' hci
                    by_cases hx0 : x < 0
                    · rw [if_pos ⟨rfl, .inl hx0⟩] at Hb
                      have hdx : decide (x < 0) = true := by simpa using hx0
                      go_wp2
                      go_quiet (fail)
                      go_wp2
                      go_roundw
                      case rel => exact ⟨K + 1, by omega, by go_num, by rw [Hb.out], _, rfl⟩
                      case measure => simp [intOf]; omega
                    · obtain ⟨b, rfl⟩ : ∃ b : Nat, x = (b : Int) := ⟨x.toNat, by omega⟩
                      have hbc : b < count := by omega
                      obtain ⟨bb, ob, cb, hcb, hcb0, _, _, _⟩ := Hnode.out b hbc
                      have hpb : 0 < (nodesTo grp G.length b).length := (nodes_some HN.out hbc).1
                      rw [show gN (nodesTo grp G.length b) 0 = firstOf G grp b from rfl] at hcb0
                      rw [Int.toNat_natCast] at Hb
                      have hdx : decide ((b : Int) < 0) = false := by simp
                      by_cases hlt : firstOf G grp K < firstOf G grp b
                      · rw [if_pos ⟨rfl, .inr hlt⟩] at Hb
                        have hdl : decide ((firstOf G grp K : Int) < (firstOf G grp b : Int)) = true := by simpa using hlt
                        clear hx0
                        go_wp2
                        go_quiet (fail)
                        go_wp2
                        go_roundw
                        case rel => exact ⟨K + 1, by omega, by go_num, by rw [Hb.out], _, rfl⟩
                        case measure => simp [intOf]; omega
                      · rw [if_neg (by rintro ⟨_, h | h⟩; exact hx0 h; exact hlt h)] at Hb
                        have hdl : decide ((firstOf G grp K : Int) < (firstOf G grp b : Int)) = false := by simpa using hlt
                        clear hx0
                        go_wp2
                        go_quiet (fail)
                        go_wp2
                        go_roundw
                        case rel => exact ⟨K + 1, by omega, by go_num, by rw [Hb.out], _, rfl⟩
                        case measure => simp [intOf]; omega
                  · have hdz : ((rest G grp Dn K : Int) == 0) = false := by simp; omega
                    have hfr' : freeOf G grp Dn K = false := by rw [hfr]; simp [hz]
                    rw [hfr', if_neg (by simp)] at Hb
                    clear hfr hfr' hz
                    go_wp2
                    go_quiet (fail)
                    go_wp2
                    go_roundw
                    case rel => exact ⟨K + 1, by omega, by go_num, by rw [Hb.out], _, rfl⟩
                    case measure => simp [intOf]; omega
              · have hKe : count = K := by omega
                subst hKe
                obtain ⟨b, hbe, hbc, hdb, hrb, hnx⟩ := HGI.out.best HG.out HN.out htlt
                rw [hbe]
                have Hst := Lib.hid (HGI.out.step HG.out HN.out hbc hdb hrb hnx)
                have Hmf := Lib.hid (midL_first (G := G) (grp := grp) (by rw [HDl.out]; exact hbc) hdb count)
                have hol : out.length = t := HGI.out.2.2.2.2
                obtain ⟨bn, on, cn, hcn, _, hSn, hatn, hrn⟩ := Hnode.out b hbc
                have hpn : 0 < (nodesTo grp G.length b).length := (nodes_some HN.out hbc).1
                have hnsl := nodesTo_le grp G.length b
                have Hmem := Lib.hid (fun (i : Nat) (hi : i < (nodesTo grp G.length b).length) => mem_nodesTo.1 (List.getElem_mem hi))
                obtain ⟨ns, hns⟩ : ∃ ns, ns = nodesTo grp G.length b := ⟨_, rfl⟩
                rw [← hns] at Hst Hmf hcn hatn hrn hpn hnsl Hmem
                obtain ⟨xs, hox, hrx⟩ := HR.out
                have hoxl : xs.length = out.length := by simpa using hox.1
                have hsz8 : bD + 1 ≤ w8.heap.size := by have := HKp.out.size; omega
                have Hown := Lib.hid (show ((w8.drewN m).setCell ⟨bD, b, none⟩ (.bool true)).ownsRow (bD + 1) 25 1 (.slice A2 out.length c2) out.length xs from own_setFar hox (p := ⟨bD, b, none⟩) (Nat.lt_succ_self _) _)
                have Hrx := Lib.hid hrx
                have HVD9 := Lib.hid (((HVD.out.drewN m).setBool b true).alloc (.cells #[.slice (some ⟨bn, on, none⟩) ns.length cn] 25))
                have hfD := (HVD.out.drewN m).frozen b
                have hcD := HVD.out.bool (i := b) (by rw [HDl.out]; exact hbc)
                have hneDO : bD ≠ O := by omega
                have hneOD : O ≠ bD := by omega
                have Hns := Lib.hid hns
                have Hrn := Lib.hid hrn
                have Hatn := Lib.hid hatn
                have Hoxl := Lib.hid hoxl
                clear hox hrx hoxl hbe hdb hrb hnx hns hrn hatn Hnode HVD hc6
                go_wp2_with (at_builtin; refine wpList_push rfl _ _ _ rfl eRow (v := .slice A2 out.length c2) rfl (Hown.out.alloc _) w8.heap.size (.slice (some ⟨bn, on, none⟩) ns.length cn) rfl (by simp [go_sem]) rfl (by omega) (by simp; omega) ?_; intro v12 w12 hown12 hg12 hat12; have HR12 := Lib.hid (RowsS.snoc RNats.stable Hoxl.out Hrx.out Hrn.out (fun b0 hb0 => (hg12.block b0 (by simp; rcases hb0 with rfl | hb0 <;> omega) (fun e => by have := (Hown.out.lt _ e.symm).1; rcases hb0 with rfl | hb0 <;> omega)).trans ((Below.heap_alloc _ _ b0 (by simp; rcases hb0 with rfl | hb0 <;> omega)).trans (Below.heap_setCell _ _ _ b0 (by rcases hb0 with rfl | hb0 <;> (show _ ≠ bD; omega))))) hown12); have HVD12 := Lib.hid (HVD9.out.grown hg12 (fun e => by have := (Hown.out.lt _ e.symm).1; omega)); have HK12 := Lib.hid ((HKp.out.drewN m).trans (Kp.push hsz8 hg12 (fun b0 e => (Hown.out.lt b0 e).1))); obtain ⟨A12, c12, rfl⟩ := own_shape hown12; have hcn12 := ((World.cell?_of_block (a := ⟨O, b, none⟩) (HK12.out.block O (by omega) (by omega) (by omega))).trans ((World.cell?_of_block (a := ⟨O, b, none⟩) (HKp.out.block O (by omega) (by omega) (by omega))).symm.trans hcn)); have HVI12 := Lib.hid (show VBlk w12 bI 3 _ from (hg12.block bI (by simp; omega) (fun e => by have := (Hown.out.lt _ e.symm).1; omega)).trans ((Below.heap_alloc _ _ bI (by simp; omega)).trans ((Below.heap_setCell _ ⟨bD, b, none⟩ _ bI (by show bI ≠ bD; omega)).trans HVI.out))); have hsz12 : bD + 1 ≤ w12.heap.size := (by have := HK12.out.size; omega); clear hown12 hg12 hat12)
                have HGI9 := Hst
                rw [hol] at HR12
                rw [← Hmf.out] at HVI12
                have H12 : ∀ {b0 : Nat} {t0 : TypeId} {vs0 : List Value}, b0 < base → b0 ≠ bI → VBlk w7 b0 t0 vs0 → VBlk w12 b0 t0 vs0 := fun {b0 t0 vs0} hb hn hv => (HK12.out.block b0 (by omega) hn (by omega)).trans hv
                have hc1 := (H12 (by omega) (by omega) Hw1.out).cell (i := 0) rfl
                have Hv2 := Lib.hid (H12 (by omega) (by omega) Hw2.out)
                have Hv3 := Lib.hid (H12 (by omega) (by omega) Hw3.out)
                have Hv6 := Lib.hid (H12 (by omega) (by omega) Hw6.out)
                have Hat12 := Lib.hid (show RAt RNat w12 (fun b => b = O ∨ base ≤ b ∧ b < bD) (some ⟨bn, on, none⟩) ns from Hatn.out.agree RNat.stable (fun b0 hb0 => (HK12.out.block b0 (by rcases hb0 with rfl | hb0 <;> omega) (by rcases hb0 with rfl | hb0 <;> omega) (by rcases hb0 with rfl | hb0 <;> omega)).trans (HKp.out.block b0 (by rcases hb0 with rfl | hb0 <;> omega) (by rcases hb0 with rfl | hb0 <;> omega) (by rcases hb0 with rfl | hb0 <;> omega)).symm) (fun _ h => h))
                have HG12 := Lib.hid (RNatss.stable.agree HGw.out (fun b0 (hb0 : b0 < D) => HK12.out.block b0 (by omega) (by omega) (by omega)))
                obtain ⟨_, _, eA, _, hatg⟩ := HG12.out.open_
                cases eA
                have Hatg := Lib.hid hatg
                clear H12 hatg HN8 HVI HVD9 Hown Hrx Hoxl Hrn Hatn hcn hfD hcD HR Hmf hneDO hneOD hsz8
                go_wp2
                go_loopw [108] (fun sv wr => ∃ i : Nat, i ≤ ns.length ∧ sv = .int .i64 i ∧ Hid (VBlk wr bI 3 (nVs (midL G grp (Dn.set b true) ns count i))) ∧ Hid (At1 bI w12 wr)) (fun sv _ => ns.length - (intOf sv).toNat)
                case atStart => exact ⟨0, Nat.zero_le _, rfl, HVI12.out, At1.refl _ _⟩
                case round =>
                  obtain ⟨w13, rfl⟩ : ∃ w0 : World, w0 = wr := ⟨_, rfl⟩
                  obtain ⟨i, hile, rfl, HV13, HA13⟩ := hrel
                  by_cases hilt : i < ns.length
                  · obtain ⟨b', o', u, e, _, hci, hu⟩ := Hat12.out.at_ RNat.stable (HA13.out.ag (S := fun b => b = O ∨ base ≤ b ∧ b < bD) fun j hj => by rcases hj with rfl | hj <;> omega) hilt
                    cases e
                    obtain rfl := hu
                    unfold natV at hci
                    obtain ⟨hnl, hng⟩ := Hmem.out i hilt
                    obtain ⟨n, hn⟩ : ∃ n, n = ns[i] := ⟨_, rfl⟩
                    have Hop := Lib.hid (midL_open (G := G) (grp := grp) (D := Dn.set b true) (count := count) hilt)
                    rw [← hn] at hci hnl hng Hop
                    rw [Hop.out] at HV13
                    have hc1' := (HA13.out.cell (p := ⟨D, 0, none⟩) (by show D ≠ bI; omega)).trans hc1
                    obtain ⟨br, or, ur, rfl, hbr, hcr, hur⟩ := Hatg.out.at_ RNats.stable (HA13.out.ag (S := Lt D) fun j (hj : j < D) => by omega) hnl
                    obtain ⟨Ar, cr, rfl, hmr, hatr⟩ := hur.open_
                    have Hatr := Lib.hid hatr
                    clear hn hatr hur Hop
                    go_wp2
                    go_loopw [117] (fun sv wr => ∃ j : Nat, j ≤ G[n].length ∧ sv = .int .i64 j ∧ Hid (VBlk wr bI 3 (nVs (dropL G grp (Dn.set b true) ns count n i j))) ∧ Hid (At1 bI w12 wr)) (fun sv _ => G[n].length - (intOf sv).toNat)
                    case atStart => exact ⟨0, Nat.zero_le _, rfl, HV13.out, HA13.out⟩
                    case round =>
                      obtain ⟨w14, rfl⟩ : ∃ w0 : World, w0 = wr := ⟨_, rfl⟩
                      obtain ⟨j, hjle, rfl, HV14, HA14⟩ := hrel
                      by_cases hjlt : j < G[n].length
                      · obtain ⟨b5, o5, u5, rfl, hb5, hc5, hu5⟩ := Hatr.out.at_ RNat.stable (S := Lt D) (w' := w14) (fun j (hj : j < D) => (HA14.out.block j (by omega)).trans (HA13.out.block j (by omega)).symm) hjlt
                        obtain rfl := hu5
                        unfold natV at hc5
                        have hrow : (row G n)[j]? = some G[n][j] := by rw [row_at hnl]; exact List.getElem?_eq_getElem hjlt
                        have hk : G[n][j] < G.length := HG.out n _ (by rw [row_at hnl]; exact List.getElem_mem hjlt)
                        obtain ⟨k, hkk⟩ : ∃ k, k = G[n][j] := ⟨_, rfl⟩
                        rw [← hkk] at hc5 hk hrow
                        have hlt := HN.out.lt k hk
                        have Hds := Lib.hid (dropL_step (grp := grp) (D := Dn.set b true) (ns := ns) (i := i) hrow hlt)
                        have h3 := (HA14.out.cell (p := ⟨b3, 0, none⟩) (by show b3 ≠ bI; omega)).trans (Hv3.out.cell (i := 0) rfl)
                        have hVk := (Hv2.out.ag (HA14.out.ag (S := fun x => x = bg) fun x e => by rw [e]; omega) rfl).nat (i := k) (by rw [HN.out.len]; exact hk)
                        rw [hng] at Hds
                        clear hrow hkk hcr hc1'
                        by_cases he : gN grp k = b
                        · have hd : ((gN grp k : Int) != (b : Int)) = false := by rw [he]; simp
                          have Hd1 := Lib.hid (Hds.out.1 he)
                          clear he Hds
                          go_wp2
                          go_roundw
                          case rel => exact ⟨j + 1, by omega, by go_num, by rw [Hd1.out]; exact HV14.out, HA14.out⟩
                          case measure => simp [intOf]; omega
                        · have hd : ((gN grp k : Int) != (b : Int)) = true := by simp; omega
                          have Hd2 := Lib.hid (Hds.out.2 he)
                          obtain ⟨q, hq⟩ : ∃ q, q = gN grp k := ⟨_, rfl⟩
                          have h6 := (HA14.out.cell (p := ⟨b6, 0, none⟩) (by show b6 ≠ bI; omega)).trans (Hv6.out.cell (i := 0) rfl)
                          have hVI := HV14.out.nat (i := q) (by rw [dropL_length, hq]; exact hlt)
                          have hfI := HV14.out.frozen q
                          have hxle := gN_dropL_le (G := G) (grp := grp) (D := Dn.set b true) (ns := ns) (n := n) (i := i) (j := j) (c := q) (count := count) Hr.out
                          have hmul : (G.length + ns.length + 1) * 100000 ≤ 200001 * 100000 := Nat.mul_le_mul_right _ (by omega)
                          rw [← hq] at hVk hlt hd Hd2
                          obtain ⟨x, hx⟩ : ∃ x, x = gN (dropL G grp (Dn.set b true) ns count n i j) q := ⟨_, rfl⟩
                          rw [← hx] at hVI hxle Hd2
                          have hx1 : 1 ≤ x := Hd2.out.1
                          have HS := Lib.hid (HV14.out.setNat q (x - 1))
                          rw [Hd2.out.2, show ((x - 1 : Nat) : Int) = (x : Int) - 1 by omega] at HS
                          have HAS := Lib.hid (HA14.out.trans (at1_set w14 bI q (.int .i64 ((x : Int) - 1))))
                          have hbk : x ≤ 20000100000 := by omega
                          clear he Hds hq hx hxle hmul Hd2
                          go_wp2
                          go_region
                          all_goals
                            go_wp2
                            go_roundw
                            case rel => exact ⟨j + 1, by omega, by go_num, HS.out, HAS.out.drewN 1⟩
                            case measure => simp [intOf]; omega
                      · obtain rfl : j = G[n].length := by omega
                        have HV15 := Lib.hid HV14.out
                        rw [← row_at hnl, dropL_end] at HV15
                        clear HV14
                        go_wp2
                        go_roundw
                        case rel => exact ⟨i + 1, by omega, by go_num, HV15.out, HA14.out⟩
                        case measure => simp [intOf]; omega
                  · obtain rfl : i = ns.length := by omega
                    rw [midL_last] at HV13
                    have HR13 := Lib.hid (HR12.out.keep RNats.stable (HA13.out.ag fun b0 hb0 => by rcases hb0 with rfl | hb0 <;> omega) (fun b0 h1 _ => HA13.out.block b0 (by omega)))
                    have HVD13 := Lib.hid (HVD12.out.ag (HA13.out.ag (S := fun x => x = bD) fun x e => by rw [e]; omega) rfl)
                    have HK13 := Lib.hid (HK12.out.trans HA13.out.kp)

                    go_wp2
                    go_roundw
                    case rel => exact ⟨t + 1, _, _, by omega, by go_num, HGI9.out, HR13.out, HVD13.out, HV13.out, HK13.out⟩
                    case measure => simp [intOf]; omega
          · obtain rfl : t = count := by omega
            obtain ⟨A2, c2, rfl⟩ := HR.out.shape
            go_wp2
            go_ret
            refine ⟨_, out, rfl, HR.out.reads RNats.stable (fun b hb => ?_) (fun b _ hb => hb), HGI.out.final HG.out HN.out, ?_⟩
            · have := HKp.out.size
              show b < w8.heap.size
              rcases hb with rfl | hb <;> omega
            · rw [← HD.out]
              exact HBw.out.trans (⟨HKp.out.os, HKp.out.tape, HKp.out.output, HKp.out.size, fun b hb => HKp.out.block b (by omega) (by omega) (by omega)⟩ : Below D w7 w8)
end Go.Proofs.Ytjmenkjmghmkpaa
