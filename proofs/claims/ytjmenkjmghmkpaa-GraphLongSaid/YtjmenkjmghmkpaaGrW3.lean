/- graph.Depth: how many steps each node is from one. -/
import Derived.Test.YtjmenkjmghmkpaaGrW1
import Derived.Test.YtjmenkjmghmkpaaQue
import Derived.Deep.LoopGhost
import Derived.Deep.DeepCutAuto
namespace Go.Proofs.Ytjmenkjmghmkpaa
open Go.RowKit
open G22

theorem size_setCell (w : World) (p : Addr) (u : Value) : (w.setCell p u).heap.size = w.heap.size := by simp [World.setCell]
theorem eInt : Elem1 Try.prog 25 3 8 := elem1_mk (z := .int .i64 0) Try.underlying25 (by kernel_rfl) (by omega) rfl
def fillN (n k : Nat) : List Int := List.replicate k (-1) ++ List.replicate (n - k) 0
theorem fillN_length {n k : Nat} (h : k ≤ n) : (fillN n k).length = n := by simp [fillN]; omega
theorem fillN_zero (n : Nat) : iVs (fillN n 0) = List.replicate n (Value.int .i64 0) := by simp [fillN, iVs]
theorem fillN_set {n k : Nat} (h : k < n) : (fillN n k).set k (-1) = fillN n (k + 1) := by
  unfold fillN
  rw [List.set_append_right _ _ (by simp)]
  have : n - k = (n - (k + 1)) + 1 := by omega
  rw [this, List.replicate_succ]
  simp [List.replicate_succ']
theorem fillN_all (n : Nat) : fillN n n = List.replicate n (-1) := by simp [fillN]
def DepthPost (G : Gr) (a : Nat) (w : World) (e : Ending) (w' : World) : Prop :=
  ∃ d, IsDepth G a d ∧ e = .returned (.slice (some ⟨w.heap.size, 0, none⟩) G.length G.length) ∧ VBlk w' w.heap.size 3 (iVs d) ∧ Below w.heap.size w w'
set_option maxHeartbeats 400000 in
theorem Depth_no (s : Value) (g : List (List Int)) (x : Int) (w : World) {B : Nat} (hs : RIntss w (Lt B) s g) (h : (mayG g && isNodeB g.length x) = false) :
    Calls Try.prog 15 #[s, .int .i64 x] w fun e w' => e = .returned (.slice none 0 0) ∧ w = w' := by
  have Hs := Lib.hid hs
  cases hm : mayG g with
  | true =>
    rw [hm, Bool.true_and] at h
    have Hm := Lib.hid hm
    have Hx := Lib.hid h
    clear hm h hs
    go_enter Try.func15, Try.ntmps15
    go_wp2_with (first
      | (go_at_call 12; refine (May_any _ _ _ Hs.out).mono ?_; rintro e w1 ⟨rfl, rfl⟩; rw [Hm.out])
      | (go_at_call 28; refine (isNode_any _ _ _ _ Hs.out).mono ?_; rintro e w1 ⟨rfl, rfl⟩; rw [Hx.out]))
    go_ret
    exact ⟨rfl, rfl⟩
  | false =>
    have Hm := Lib.hid hm
    clear hm h hs
    go_enter Try.func15, Try.ntmps15
    go_wp2_with (first
      | (go_at_call 12; refine (May_any _ _ _ Hs.out).mono ?_; rintro e w1 ⟨rfl, rfl⟩; rw [Hm.out]))
    go_ret
    exact ⟨rfl, rfl⟩
set_option maxRecDepth 100000 in
set_option maxHeartbeats 2000000 in
theorem Depth_any (s : Value) (G : Gr) (a : Nat) (w : World) (hs : RNatss w (Lt w.heap.size) s G) (hG : okG G) (ha : a < G.length) (hn : G.length ≤ 1000000) :
    Calls Try.prog 15 #[s, .int .i64 a] w (DepthPost G a w) := by
  have Hi := Lib.hid (intss_of_natss hs)
  have Hm := Lib.hid (mayG_of hG)
  have Hx := Lib.hid (show isNodeB (intss G).length (a : Int) = true by rw [List.length_map, isNodeB_lt]; simpa using ha)
  have HG := Lib.hid hG
  obtain ⟨A, c, rfl, hm, hat⟩ := hs.open_
  have Hat := Lib.hid hat; clear hat
  have hmk := fun (W : World) => run_makeN (P := Try.prog) (bytes := 8) (z := .int .i64 0) Try.underlying25 (by kernel_rfl) (by omega) rfl G.length (by omega) W
  clear hs hG
  go_enter Try.func15, Try.ntmps15
  go_wp2_with (first
    | (go_at_call 12; refine (May_any _ _ _ Hi.out).mono ?_; rintro e w1 ⟨rfl, rfl⟩; rw [Hm.out])
    | (go_at_call 28; refine (isNode_any _ _ _ _ Hi.out).mono ?_; rintro e w1 ⟨rfl, rfl⟩; rw [Hx.out]))
  have HV0 := Lib.hid (show VBlk (w.alloc (.cells (madeCells #[.int .i64 0] G.length) 3)) w.heap.size 3 (iVs (fillN G.length 0)) by rw [fillN_zero]; exact vblk_made _ _ _ _)
  have HB0 := Lib.hid (below_alloc w (.cells (madeCells #[.int .i64 0] G.length) 3))
  have hz0 : w.heap.size < (w.alloc (.cells (madeCells #[.int .i64 0] G.length) 3)).heap.size := by simp
  obtain ⟨D, hD⟩ : ∃ D, D = w.heap.size := ⟨_, rfl⟩
  rw [← hD] at HV0 HB0 hz0 Hat Hi ⊢
  have HD := Lib.hid hD
  clear hD hmk
  generalize w.alloc (.cells (madeCells #[.int .i64 0] G.length) 3) = w0 at *
  go_loopw [25] (fun sv wr => ∃ k : Nat, k ≤ G.length ∧ sv = .int .i64 k ∧ Hid (VBlk wr D 3 (iVs (fillN G.length k))) ∧ Hid (Below D w wr) ∧ D < wr.heap.size) (fun sv _ => G.length - (intOf sv).toNat)
  case atStart => exact ⟨0, Nat.zero_le _, rfl, HV0.out, HB0.out, hz0⟩
  case round =>
    obtain ⟨w1, rfl⟩ : ∃ w0 : World, w0 = wr := ⟨_, rfl⟩
    obtain ⟨k, hkle, rfl, hV, hB, hz⟩ := hrel
    by_cases hklt : k < G.length
    · have hcell := hV.out.int (i := k) (by rw [fillN_length hkle]; exact hklt)
      have hfro := hV.out.frozen k
      have HV1 := Lib.hid (show VBlk (w1.setCell ⟨D, k, none⟩ (.int .i64 (-1))) D 3 (iVs (fillN G.length (k + 1))) by rw [← fillN_set hklt]; exact hV.out.setInt k (-1))
      have HB1 := Lib.hid (show Below D w (w1.setCell ⟨D, k, none⟩ (.int .i64 (-1))) from hB.out.setCell (Nat.le_refl _) _)
      go_wp2
      go_roundw
      case rel => exact ⟨k + 1, by omega, by go_num, HV1.out, HB1.out, by simpa [World.setCell] using hz⟩
      case measure => simp [intOf]; omega
    · obtain rfl : k = G.length := by omega
      have HV1 := Lib.hid (show VBlk w1 D 3 (iVs (List.replicate G.length (-1))) by rw [← fillN_all]; exact hV.out)
      have hcell := HV1.out.int (i := a) (by simpa using ha)
      have hfro := HV1.out.frozen a
      have HV2 := Lib.hid (HV1.out.setInt a 0)
      have HB2 := Lib.hid (show Below D w (w1.setCell ⟨D, a, none⟩ (.int .i64 0)) from hB.out.setCell (Nat.le_refl _) _)
      have hz2 : D < (w1.setCell ⟨D, a, none⟩ (.int .i64 0)).heap.size := by simpa [World.setCell] using hz
      clear hV hB hklt hkle HV0 HB0 hz0 hz
      go_wp2
      have HS0 := Lib.hid (bfs_start (G := G) ha)
      have hq0 := que_new (w1.setCell ⟨D, a, none⟩ (.int .i64 0)) 3 (natV a) (base := D + 1) hz2
      have HV3 := Lib.hid (HV2.out.alloc (.cells #[.int .i64 (a : Int)] 3))
      have HB3 := Lib.hid (HB2.out.alloc (Nat.le_of_lt hz2) (.cells #[.int .i64 (a : Int)] 3))
      have HQ0 := Lib.hid (show Que ((w1.setCell ⟨D, a, none⟩ (.int .i64 0)).alloc (.cells #[.int .i64 (a : Int)] 3)) (D + 1) 3 (.slice (some ⟨w1.heap.size, 0, none⟩) 1 1) ([a].map natV) by rw [size_setCell] at hq0; exact hq0)
      clear hq0 HV1 HV2 HB2 hcell hfro hz2
      generalize (w1.setCell ⟨D, a, none⟩ (.int .i64 0)).alloc (.cells #[.int .i64 (a : Int)] 3) = w2 at *
      generalize (Value.slice (some ⟨w1.heap.size, 0, none⟩) 1 1) = qv at *
      go_loopg [7] (G.length) (fun gk qv wr => ∃ (d : List Int) (p q : List Nat), Hid (Bfs G a d p q ∧ gk = G.length - p.length) ∧ Hid (VBlk wr D 3 (iVs d)) ∧ Hid (Que wr (D + 1) 3 qv (q.map natV)) ∧ Hid (Below D w wr))
      case atStart => exact ⟨_, [], [a], ⟨HS0.out, rfl⟩, HV3.out, HQ0.out, HB3.out⟩
      case round =>
        obtain ⟨w3, rfl⟩ : ∃ w0 : World, w0 = wr := ⟨_, rfl⟩
        obtain ⟨d, p, q, hbf, hV, hQ, hB⟩ := hrel
        cases q with
        | nil =>
          obtain ⟨Aq, cq, rfl⟩ := hQ.out.shape
          have Hfin := Lib.hid (Bfs.final hbf.out.1)
          go_wp2
          go_ret
          rw [HD.out] at hV hB ⊢
          exact ⟨d, Hfin.out, rfl, hV.out, hB.out⟩
        | cons x q =>
          obtain ⟨bq, oq, cq, rfl, hcq, hbq, hbq2, hcq2⟩ := hQ.out.at_ (by simp)
          have hx : x < G.length := hbf.out.1.lt (by simp)
          obtain ⟨br, or, ur, rfl, hbr, hcr0, hur⟩ := Hat.out.lt_ hx
          have hcr := (hB.out.cell (p := ⟨br, or + x, none⟩) hbr).trans hcr0
          obtain ⟨Ar, cr, rfl, hmr, hatr⟩ := hur.open_
          have Hatr := Lib.hid hatr
          simp only [List.map_cons, List.length_cons, List.length_map] at hcq hQ ⊢
          have hc0 := hcq2 0 (natV x) rfl
          unfold natV at hc0
          rw [Nat.add_zero] at hc0
          have Ht1 := Lib.hid (fun (A : Option Addr) hA => Que.tail (xs := q.map natV) (by simpa using hQ.out) hcq2 hbq hbq2 A hA)
          simp only [List.length_map] at Ht1
          clear hcq2 hatr hur hQ
          have Hbf := Lib.hid hbf.out.1
          have Hgk := Lib.hid hbf.out.2
          clear hbf
          go_upto_region 14 with fail
          all_goals
            have hq2 := Lib.hid (Ht1.out (if q = [] then some ⟨bq, oq, none⟩ else some ⟨bq, oq + 1, none⟩) (fun h => by rw [if_neg (by rintro rfl; simp at h)]))
            generalize (if q = [] then some (⟨bq, oq, none⟩ : Addr) else some ⟨bq, oq + 1, none⟩) = Aq at *
            clear Ht1 hc0 hcr0
            go_wp2
            go_loopw [54, 7] (fun sv qv wr => ∃ (j : Nat) (d' : List Int) (q' : List Nat), j ≤ G[x].length ∧ sv = .int .i64 j ∧ Hid (Bfs G a d' p (x :: q')) ∧ Hid (∀ y, y ∈ G[x].take j → 0 ≤ dd d' y) ∧ Hid (VBlk wr D 3 (iVs d')) ∧ Hid (Que wr (D + 1) 3 qv (q'.map natV)) ∧ Hid (Below D w wr)) (fun sv _ _ => G[x].length - (intOf sv).toNat)
            case atStart => exact ⟨0, d, q, Nat.zero_le _, rfl, Hbf.out, (fun y hy => by simp at hy), hV.out, hq2.out, hB.out⟩
            case round =>
              obtain ⟨w5, rfl⟩ : ∃ w0 : World, w0 = wr := ⟨_, rfl⟩
              obtain ⟨j, d', q', hjle, rfl, hbf', hpos, hV', hQ', hB'⟩ := hrel
              obtain ⟨Aq', cq', rfl⟩ := hQ'.out.shape
              by_cases hjlt : j < G[x].length
              · obtain ⟨b6, o6, u6, rfl, hb6, hc6, hu6⟩ := Hatr.out.at_ RNat.stable (ag_of_below hB'.out) hjlt
                obtain rfl := hu6
                unfold natV at hc6
                have hed : G22.Edge G x G[x][j] := by unfold G22.Edge; rw [row_at hx]; exact List.getElem_mem hjlt
                have hk : G[x][j] < G.length := HG.out x _ hed
                have hkd : G[x][j] < d'.length := by rw [hbf'.out.len]; exact hk
                have hxd : x < d'.length := by rw [hbf'.out.len]; exact hx
                have hck := hV'.out.int hkd
                have hcx := hV'.out.int hxd
                have hdk : dd d' G[x][j] = d'[G[x][j]] := by simp [dd, List.getD, hkd]
                have hdx : dd d' x = d'[x] := by simp [dd, List.getD, hxd]
                have hx0 : 0 ≤ d'[x] := by rw [← hdx]; exact (hbf'.out.mem x).2 (by simp)
                have hxh : d'[x] ≤ 1000000 := by have h1 := hbf'.out.hi x; have h2 := hbf'.out.size; rw [hdx] at h1; omega
                have hql : q'.length < 1000000 := by have h2 := hbf'.out.size; simp at h2; omega
                simp only [List.length_map] at hQ' ⊢
                clear Hm Hx Hi HS0 HV3 HB3 HQ0 hbr hb6
                by_cases hneg : d'[G[x][j]] < 0
                · have HB6 := Lib.hid (hbf'.out.visit hed hk (by rw [hdk]; exact hneg))
                  have HV6 := Lib.hid ((hV'.out.setInt G[x][j] (d'[x] + 1)).alloc (.cells #[.int .i64 (G[x][j] : Int)] 3))
                  have HQ6 := Lib.hid ((hQ'.out.setCell (p := ⟨D, G[x][j], none⟩) (Nat.lt_succ_self D) (.int .i64 (d'[x] + 1))).alloc (.cells #[.int .i64 (G[x][j] : Int)] 3))
                  have HW6 := Lib.hid ((hB'.out.setCell (p := ⟨D, G[x][j], none⟩) (Nat.le_refl _) (.int .i64 (d'[x] + 1))).alloc (by rw [size_setCell]; exact Nat.le_of_lt (hV'.out.lt)) (.cells #[.int .i64 (G[x][j] : Int)] 3))
                  have hfr := hV'.out.frozen G[x][j]
                  have hkeepd : Hid (∀ y, y ∈ G[x].take (j + 1) → 0 ≤ dd (d'.set G[x][j] (d'[x] + 1)) y) := by
                    intro y hy
                    rw [dd_set hkd]
                    split
                    · omega
                    · next hne =>
                      rw [List.take_succ_eq_append_getElem hjlt] at hy
                      rcases List.mem_append.1 hy with hy | hy
                      · exact hpos.out y hy
                      · simp at hy; exact absurd hy hne
                  rw [hdx] at HB6
                  have HP6 := Lib.hid hkeepd
                  clear hkeepd hdk hdx hpos hbf'
                  go_wp2_with (at_builtin; refine wpList_que rfl _ _ _ rfl eInt rfl HQ6.out w5.heap.size (natV G[x][j]) rfl (by simp [go_sem, natV]) rfl (by simp; omega) ?_; intro v7 w7 hq7 hb7)
                  have HV7 := Lib.hid (HV6.out.below hb7 (Nat.lt_succ_self D))
                  have HW7 := Lib.hid (HW6.out.trans (hb7.mono (Nat.le_succ D)))
                  have HQ7 := Lib.hid (show Que w7 (D + 1) 3 v7 ((q' ++ [G[x][j]]).map natV) by rw [List.map_append]; exact hq7)
                  clear HV6 HW6 hq7 hb7 HQ6
                  go_roundw
                  case rel => exact ⟨j + 1, _, _, by omega, by go_num, HB6.out, HP6.out, HV7.out, HQ7.out, HW7.out⟩
                  case measure => simp [intOf]; omega
                · have hkeepd : Hid (∀ y, y ∈ G[x].take (j + 1) → 0 ≤ dd d' y) := by
                    intro y hy
                    rw [List.take_succ_eq_append_getElem hjlt] at hy
                    rcases List.mem_append.1 hy with hy | hy
                    · exact hpos.out y hy
                    · simp at hy; subst hy; omega
                  have HP6 := Lib.hid hkeepd
                  clear hkeepd hdk hdx hpos
                  go_wp2
                  go_roundw
                  case rel => exact ⟨j + 1, d', q', by omega, by go_num, hbf'.out, HP6.out, hV'.out, hQ'.out, hB'.out⟩
                  case measure => simp [intOf]; omega
              · obtain rfl : j = G[x].length := by omega
                have HB6 := Lib.hid (hbf'.out.pop fun y hy => hpos.out y (by unfold G22.Edge at hy; rw [row_at hx] at hy; rw [List.take_length]; exact hy))
                have hsz := hbf'.out.size
                have Hsz := Lib.hid hsz
                clear hpos hjlt hjle hbf' hsz
                go_wp2
                go_roundg (G.length - (p ++ [x]).length)
                case rel => exact ⟨d', p ++ [x], q', ⟨HB6.out, rfl⟩, hV'.out, hQ'.out, hB'.out⟩
                case measure => have h1 := Hgk.out; have h2 := Hsz.out; simp at h2 ⊢; omega
end Go.Proofs.Ytjmenkjmghmkpaa
