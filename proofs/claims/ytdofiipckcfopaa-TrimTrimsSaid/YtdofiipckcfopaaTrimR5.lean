/- The reference's first step: the walk. -/
import Derived.Test.YtdofiipckcfopaaTrimR4
namespace Go.Proofs.Ytdofiipckcfopaa
open Go.RowKit

set_option maxRecDepth 100000 in
set_option maxHeartbeats 8000000 in
theorem rstep_any (vars g : Nat) (s : TrS) (w : World) (hw : Rk w g s) (hok : clsOk vars s.C) (hv : vars ≤ 1024) (hcl : s.C.length ≤ 1000000) (hfl : s.F.length ≤ 1000000) (hul : s.U.length ≤ 1000000) :
    Calls Try.prog 22 #[.pointer (some ⟨g, 0, none⟩), .int .i64 (vars : Nat)] w (RStep vars g s w) := by
  obtain ⟨vC, vF, vU, h⟩ := hw
  have H := Lib.hid h
  obtain ⟨hc0, _, hc2, _⟩ := h.cell
  have hfz := h.frozen
  have hgl := h.lt
  obtain ⟨A, c, rfl, hm, hat⟩ := h.reads.open_
  have Hat := Lib.hid hat
  clear h hat
  go_enter Try.func22, Try.ntmps22
  go_wp2
  go_loop [35] (fun sv => ∃ i : Nat, i ≤ (s.C).length ∧ sv = .int .i64 i ∧ Hid (firstN (twAt s.C) i = none)) (fun sv => (s.C).length - (intOf sv).toNat)
  case atStart => exact ⟨0, Nat.zero_le _, rfl, hid_first _⟩
  case round =>
    obtain ⟨i, hile, rfl, hiinv⟩ := hrel
    by_cases hilt : i < (s.C).length
    · obtain ⟨bi, offi, ui, rfl, hbi, hcelli, hui⟩ := Hat.out.lt_ hilt
      have Hui := Lib.hid hui
      obtain ⟨A2, c2, rfl, hm2, hat2⟩ := hui.open_
      have Hat2 := Lib.hid hat2
      clear hat2 hui
      go_wp2
      go_loop [42] (fun sv => ∃ k : Nat, k ≤ (s.C[i]).length ∧ sv = .int .i64 k ∧ Hid (firstN (dupAt s.C[i]) k = none)) (fun sv => (s.C[i]).length - (intOf sv).toNat)
      case atStart => exact ⟨0, Nat.zero_le _, rfl, hid_first _⟩
      case round =>
        obtain ⟨k, hkle, rfl, hkinv⟩ := hrel
        by_cases hklt : k < (s.C[i]).length
        · obtain ⟨bk, offk, uk, rfl, hbk, hcellk, huk⟩ := Hat2.out.lt_ hklt
          obtain rfl := huk
          have Ht := Lib.hid (Hui.out.take_ (k := k) (by omega))
          have hnc := Hui.out.cap_
          have hkc : k ≤ c2 := by omega
          cases hx : hasB (s.C[i].take k) s.C[i][k] with
          | true =>
            have Hk := Lib.hid (show twiceC s.C = some (s.C.set i (s.C[i].eraseIdx k)) from firstN_hit hiinv.out (twAt_hit hilt (firstN_hit hkinv.out (dupAt_hit hklt hx) hklt)) hilt)
            have Hx := Lib.hid hx; clear hx
            obtain ⟨xs, hxl, hxr, hxa⟩ := cells_named H.out.cl
            obtain ⟨b', off', e', hb', hcx⟩ := hxa (by omega)
            cases e'
            have Hown0 := Lib.hid (World.ownsRow_lit (e := 27) (base := w.heap.size) (size := 1) w #[] 0 (Nat.le_refl _) (by unfold maxLen; omega) (by rfl))
            have Hxr := Lib.hid hxr
            have Hcx := Lib.hid hcx
            have Hx1 : Hid (∀ u ∈ xs, u.oneCell' = true) := fun u hu => by
              obtain ⟨j, hj, rfl⟩ := List.getElem_of_mem hu
              exact one_slice (hxr j (by omega) _ (List.getElem?_eq_getElem hj))
            have hbl : bi < w.heap.size := hbi
            clear hxr hcx hxa
            go_wp2_with (first
              | (go_at_call 29; refine (rhas_any _ _ (s.C[i].take k) _ Ht.out).mono ?_; rintro e w1 ⟨rfl, rfl⟩; rw [Hx.out])
              | (at_builtin
                 go_must (refine wpList_append_m rfl _ _ _ rfl eRow (v := .slice (some ⟨w.heap.size, 0, none⟩) 0 0) rfl Hown0.out ⟨bi, offi, none⟩ s.C.length c xs rfl hxl (fun j u hu => ?_) Hx1.out (by omega) (by simp) ?_)
                 · rw [add_none, World.cell?_alloc_lt _ _ _ hbl]; exact Hcx.out j u hu
                 intro v9 w9 ho9 hg9 hat9
                 rw [Nat.zero_add, List.nil_append] at ho9
                 have hb9 := (below_alloc w (.cells #[] 27)).grown hg9 (by simp) (fun i hi => by cases hi; exact Nat.le_refl _)
                 obtain ⟨g9, k9, rfl, hg9a, hg9b⟩ := own_some ho9 (by omega)
                 have Ho9 := Lib.hid ho9
                 have Hb9 := Lib.hid hb9
                 clear ho9 hg9 hat9 hb9))
            have hxi : xs[i]? = some (.slice (some ⟨bk, offk, none⟩) s.C[i].length c2) := by
              have h1 := Hcx.out i _ (List.getElem?_eq_getElem (by omega))
              rw [List.getElem?_eq_getElem (by omega), ← h1]
              exact hcelli
            obtain ⟨ys, hyl, hyr, hya⟩ := cells_named (Hxr.out i hilt _ hxi)
            obtain ⟨b2', off2', e2', hb2', hcy⟩ := hya (by omega)
            cases e2'
            have Hyr := Lib.hid hyr
            have Hcy := Lib.hid hcy
            have Hy1 : Hid (∀ u ∈ ys, u.oneCell' = true) := fun u hu => by
              obtain ⟨j, hj, rfl⟩ := List.getElem_of_mem hu
              have := hyr j (by omega) _ (List.getElem?_eq_getElem hj)
              rw [show ys[j] = .int .i64 s.C[i][j] from this]; rfl
            have hbl2 : bk < w.heap.size := hbk
            have hlen2 := (hok _ (List.getElem_mem hilt)).1
            have Hxi := Lib.hid hxi
            have hbl9 : bk < w9.heap.size := Nat.lt_of_lt_of_le hbl2 Hb9.out.size
            have Hown9 := Lib.hid (World.ownsRow_lit (e := 3) (base := w9.heap.size) (size := 1) w9 #[] 0 (Nat.le_refl _) (by unfold maxLen; omega) (by rfl))
            have hwr : IntKind.i64.wrap ((k : Int) + 1) = (k : Int) + 1 := by rw [IntKind.wrap_i64]; omega
            have hin : (k : Int) + 1 ≤ s.C[i].length := by omega
            have hi0 : (0 : Int) ≤ (k : Int) + 1 := by omega
            have hic : (k : Int) ≤ (c2 : Int) := by omega
            obtain ⟨ad, had⟩ : ∃ ad, (if c2 = k + 1 then some (⟨bk, offk, none⟩ : Addr) else some ⟨bk, offk + (k + 1), none⟩) = some ad := by split <;> exact ⟨_, rfl⟩
            have Had : Hid (∀ j u, (ys.drop (k + 1))[j]? = some u → w.cell? (ad.add j) = some u) := fun j u hu => by
              have hj := (List.getElem?_eq_some_iff.1 hu).1
              simp only [List.length_drop] at hj
              rw [if_neg (by omega)] at had
              cases had
              rw [List.getElem?_drop] at hu
              rw [add_none, Nat.add_assoc]
              exact Hcy.out _ u hu
            have Hadb : Hid (ad.block = bk) := by split at had <;> (cases had; rfl)
            have Hn1 : Hid (∀ j u, (ys.take k)[j]? = some u → ((w9.alloc (.cells #[] 3)).drew).cell? ((⟨bk, offk, none⟩ : Addr).add j) = some u) := fun j u hu => by
              rw [add_none, World.cell?_drew, World.cell?_alloc_lt _ _ _ hbl9, Hb9.out.cell (by exact hbl2)]
              exact Hcy.out j u (take_get hu)
            have Hn2 : Hid (∀ j u, (ys.drop (k + 1))[j]? = some u → w9.cell? (ad.add j) = some u) := fun j u hu => by
              rw [Hb9.out.cell (by rw [block_of_add, Hadb.out]; exact hbl2)]
              exact Had.out j u hu
            have Hadb9 : Hid (∀ j, (ad.add j).block < w9.heap.size) := fun j => by rw [block_of_add, Hadb.out]; exact hbl9
            clear hyr hcy hya hxi
            go_region_law? (first
              | (refine step_append_own (by rfl) (.tmp 60) (.tmp 63) 27 (by rfl) (base := w9.heap.size) eInt (.slice (some ⟨w9.heap.size, 0, none⟩) 0 0) 0 [] (by rfl) Hown9.out.drew ⟨bk, offk, none⟩ k c2 (ys.take k) (by rfl) (by simp; omega) Hn1.out (fun u hu => Hy1.out u (List.mem_of_mem_take hu)) (by omega) (by simp) ?_
                 intro v10 w10 ho10 hg10 hat10
                 rw [Nat.zero_add] at ho10
                 obtain ⟨A10, k10, rfl⟩ := own_shape ho10
                 have Ho10 := Lib.hid ho10
                 have Hb10 := Lib.hid ((below_drewN (below_alloc w9 (.cells #[] 3)) 1).grown hg10 (by simp) (fun i hi => by cases hi; exact Nat.le_refl _))
                 clear ho10 hg10 hat10)
              | (refine step_append_own (by rfl) (.tmp 64) (.tmp 68) 27 (by rfl) (base := w9.heap.size) eInt (.slice A10 k k10) k ([] ++ ys.take k) (by rfl) Ho10.out ad (s.C[i].length - (k + 1)) (c2 - (k + 1)) (ys.drop (k + 1)) (by rfl) (by simp; omega) (fun j u hu => (Hb10.out.cell (Hadb9.out j)).trans (Hn2.out j u hu)) (fun u hu => Hy1.out u (List.mem_of_mem_drop hu)) (by omega) (Hb10.out.size) ?_
                 intro v12 w12 ho12 hg12 hat12
                 rw [show k + (s.C[i].length - (k + 1)) = s.C[i].length - 1 by omega, List.nil_append] at ho12
                 have Hb12 := Lib.hid (Hb10.out.grown hg12 Hb10.out.size (fun i hi => (Ho10.out.lt i hi).1))
                 obtain ⟨A12, k12, rfl⟩ := own_shape ho12
                 have Hr := Lib.hid (erase_row (R := RInt) RInt.stable (w := w9) (S := inR w g vF vU) (fun b hb => by have := hb.1; have := Hb9.out.size; omega) hyl hklt (fun j hj u hu => Hyr.out j hj u hu) Hb12.out ho12)
                 have Ho12 := Lib.hid ho12
                 have hd9 : w12.cell? ⟨g9, i, none⟩ = some (.slice (some ⟨bk, offk, none⟩) s.C[i].length c2) := (Hb12.out.cell (by exact hg9b)).trans ((Ho9.out.cellAt i (by omega)).trans Hxi.out)
                 have hf9 : w12.frozen? ⟨g9, i, none⟩ = false := (Hb12.out.frozen (by exact hg9b)).trans (own_frozen Ho9.out i)
                 clear ho12 hg12 hat12))
            all_goals
              have hne9 : ¬ g = g9 := by omega
              have hd0 : w12.cell? ⟨g, 0, none⟩ = some (.slice (some ⟨bi, offi, none⟩) s.C.length c) := (Hb12.out.cell (by exact Nat.lt_of_lt_of_le hgl Hb9.out.size)).trans ((Hb9.out.cell (by exact hgl)).trans hc0)
              have hf0 : w12.frozen? ⟨g, 0, none⟩ = false := (Hb12.out.frozen (by exact Nat.lt_of_lt_of_le hgl Hb9.out.size)).trans ((Hb9.out.frozen (by exact hgl)).trans (hfz 0))
              go_wp2
              go_ret
              have hb12 := Hb9.out.trans (Hb12.out.mono Hb9.out.size)
              have ho9 := ((ch_new Hb12.out (fun _ => False)).own Ho9.out (fun _ _ x => x))
              have hdup := dup_row (i := i) (fun b hb => hb.1) Hxr.out hb12 ho9 (RInts.stable.sub Hr.out fun b hb => by
                rcases hb with x | x
                · exact .inl x
                · exact .inr ⟨by have := Hb9.out.size; omega, x.2, by omega⟩)
              exact RStep.of (Tried.did0 Hk.out) ⟨rfl, (H.out.fresh (hb12.setCell (by exact hg9a) _) hdup).rk, ((hb12.mono (Nat.le_of_lt hgl)).setCell (by show g ≤ g9; omega) _).setCell (Nat.le_refl _) _⟩
          | false =>
            have Hk := Lib.hid (show firstN (dupAt s.C[i]) (k + 1) = none from firstN_go hkinv.out (dupAt_miss hklt hx))
            have Hx := Lib.hid hx; clear hx
            go_wp2_with (go_at_call 29; refine (rhas_any _ _ (s.C[i].take k) _ Ht.out).mono ?_; rintro e w1 ⟨rfl, rfl⟩; rw [Hx.out])
            go_round
            case rel => exact ⟨k + 1, by omega, by go_num, Hk⟩
            case measure => simp [intOf]; omega
        · obtain rfl : k = (s.C[i]).length := by omega
          have Hk := Lib.hid (show firstN (twAt s.C) (i + 1) = none from firstN_go hiinv.out (twAt_miss hilt hkinv.out))
          go_wp2
          go_round
          case rel => exact ⟨i + 1, by omega, by go_num, Hk⟩
          case measure => simp [intOf]; omega
    · obtain rfl : i = (s.C).length := by omega
      have H1 := Lib.hid (show twiceC s.C = none from hiinv.out)
      clear hile
      go_wp2
      go_loop [82] (fun sv => ∃ i : Nat, i ≤ (s.C).length ∧ sv = .int .i64 i ∧ Hid (firstN (alAt s.C) i = none)) (fun sv => (s.C).length - (intOf sv).toNat)
      case atStart => exact ⟨0, Nat.zero_le _, rfl, hid_first _⟩
      case round =>
        obtain ⟨i, hile, rfl, hiinv⟩ := hrel
        by_cases hilt : i < (s.C).length
        · obtain ⟨bi, offi, ui, rfl, hbi, hcelli, hui⟩ := Hat.out.lt_ hilt
          have Hui := Lib.hid hui
          obtain ⟨A2, c2, rfl, hm2, hat2⟩ := hui.open_
          have Hat2 := Lib.hid hat2
          have Hlo := Lib.hid (hok _ (List.getElem_mem hilt)).2
          clear hat2 hui
          go_wp2
          go_loop [89] (fun sv => ∃ k : Nat, k ≤ (s.C[i]).length ∧ sv = .int .i64 k ∧ Hid ((s.C[i].take k).any (fun n => hasB s.C[i] (-n)) = false)) (fun sv => (s.C[i]).length - (intOf sv).toNat)
          case atStart => exact ⟨0, Nat.zero_le _, rfl, hid_nil_any _ _⟩
          case round =>
            obtain ⟨k, hkle, rfl, hkinv⟩ := hrel
            by_cases hklt : k < (s.C[i]).length
            · obtain ⟨bk, offk, uk, rfl, hbk, hcellk, huk⟩ := Hat2.out.lt_ hklt
              obtain rfl := huk
              obtain ⟨_, hl1, hl2⟩ := Hlo.out _ (List.getElem_mem hklt)
              cases hx : hasB s.C[i] (-s.C[i][k]) with
              | true =>
                have Hk := Lib.hid (show alwaysC s.C = some (s.C.eraseIdx i) from firstN_hit hiinv.out (alAt_hit hilt (alwaysB_hit hklt hx)) hilt)
                have Hx := Lib.hid hx; clear hx
                go_wp2_with (first
                  | (go_at_call 29; refine (rhas_any _ _ s.C[i] _ Hui.out).mono ?_; rintro e w1 ⟨rfl, rfl⟩; rw [Hx.out])
                  | (go_at_call 30
                     refine (without_any (S := inR w g vF vU) _ s.C i _ (fun b hb => hb.1) H.out.cl hilt hcl).mono ?_
                     rintro e w2 ⟨v2, rfl, hb2, hr2⟩
                     have hd0 : w2.cell? ⟨g, 0, none⟩ = some (.slice (some ⟨bi, offi, none⟩) s.C.length c) := (hb2.cell (by exact hgl)).trans hc0
                     have hf0 : w2.frozen? ⟨g, 0, none⟩ = false := (hb2.frozen (by exact hgl)).trans (hfz 0)
                     have Hp := Lib.hid (show RPost g w (.bool true) (setC s (some (s.C.eraseIdx i))) (.returned (.bool true)) (w2.setCell ⟨g, 0, none⟩ v2) from ⟨rfl, (H.out.fresh hb2 hr2).rk, (hb2.mono (Nat.le_of_lt hgl)).setCell (Nat.le_refl _) _⟩)
                     obtain ⟨A9, k9, rfl⟩ := hr2.shape
                     clear hb2 hr2))
                go_ret
                exact RStep.of ((Tried.next0 H1.out).did1 Hk.out) Hp.out
              | false =>
                have Hk := Lib.hid (hid_any_succ hklt hkinv hx).out
                have Hx := Lib.hid hx; clear hx
                go_wp2_with (go_at_call 29; refine (rhas_any _ _ s.C[i] _ Hui.out).mono ?_; rintro e w1 ⟨rfl, rfl⟩; rw [Hx.out])
                go_round
                case rel => exact ⟨k + 1, by omega, by go_num, Hk⟩
                case measure => simp [intOf]; omega
            · obtain rfl : k = (s.C[i]).length := by omega
              have Hk := Lib.hid (show firstN (alAt s.C) (i + 1) = none from firstN_go hiinv.out (alAt_miss hilt (hid_any_end hkinv)))
              go_wp2
              go_round
              case rel => exact ⟨i + 1, by omega, by go_num, Hk⟩
              case measure => simp [intOf]; omega
        · obtain rfl : i = (s.C).length := by omega
          have H2 := Lib.hid (Tried.next1 (Tried.next0 (vars := vars) H1.out) (show alwaysC s.C = none from hiinv.out))
          clear hile H1
          go_wp2
          go_loop [113] (fun sv => ∃ i : Nat, i ≤ (s.C).length ∧ sv = .int .i64 i ∧ Hid ((s.C.take i).any (fun c => decide (c.length = 0)) = false)) (fun sv => (s.C).length - (intOf sv).toNat)
          case atStart => exact ⟨0, Nat.zero_le _, rfl, hid_nil_any _ _⟩
          case round =>
            obtain ⟨i, hile, rfl, hiinv⟩ := hrel
            by_cases hilt : i < (s.C).length
            · obtain ⟨bi, offi, ui, rfl, hbi, hcelli, hui⟩ := Hat.out.lt_ hilt
              obtain ⟨A2, c2, rfl, hm2, hat2⟩ := hui.open_
              clear hat2 hui
              by_cases hx : s.C[i].length = 0
              · have Hk := Lib.hid (emptyB_hit hilt hx)
                have hx1 : ((s.C[i].length : Int) == 0) = true := by rw [hx]; rfl
                have hx2 := hx
                have ho := World.ownsRow_lit (base := g + 1) (e := 27) (size := 1) w #[.slice none 0 0] 1 (by omega) (by unfold maxLen; omega) rfl
                have hk1 := (H.out.keep (below_alloc w (.cells #[.slice none 0 0] 27)))
                have hr := reads_of_own (R := RInts) (S := inR (w.alloc (.cells #[.slice none 0 0] 27)) g vF vU) (l := [[]]) ho rfl (fun b hb => H.out.new_ (w' := w.alloc (.cells #[.slice none 0 0] 27)) (by simp) (by cases hb; exact Nat.le_refl _) (by cases hb; simp)) (fun i hi u hu => by
                    match i, hi with
                    | 0, _ => cases hu; exact RSl.nil_ _ _ _)
                have hk2 := (hk1.setC hr).setE true
                rw [World.setCell_alloc_past _ _ _ _ hgl, World.setCell_alloc_past _ _ _ _ (by simpa using hgl)] at hk2
                have Hk2 := Lib.hid hk2
                have hf0 := hfz 0
                have hf3 := hfz 3
                clear hx ho hk1 hr hk2
                go_wp2
                go_ret
                refine RStep.of (H2.out.did2 Hk.out) ⟨rfl, ?_, ?_⟩
                · rw [setEm, Hk.out]; exact Hk2.out.rk
                · exact (((Below.refl g w).setCell (Nat.le_refl _) _).setCell (Nat.le_refl _) _).alloc (by simp; omega) _
              · have Hk := Lib.hid (hid_any_succ (p := fun c : List Int => decide (c.length = 0)) hilt hiinv (by rw [decide_eq_false_iff_not]; exact hx)).out
                have hx1 : ((s.C[i].length : Int) == 0) = false := by rw [beq_eq_false_iff_ne]; omega
                clear hx
                go_wp2
                go_round
                case rel => exact ⟨i + 1, by omega, by go_num, Hk⟩
                case measure => simp [intOf]; omega
            · obtain rfl : i = (s.C).length := by omega
              have H3 := Lib.hid (H2.out.next2 (show emptyB s.C = false from hid_any_end hiinv))
              clear hile H2
              go_wp2
              go_loop [133] (fun sv => ∃ i : Nat, i ≤ (s.C).length ∧ sv = .int .i64 i ∧ Hid (firstN (unAt s.C) i = none)) (fun sv => (s.C).length - (intOf sv).toNat)
              case atStart => exact ⟨0, Nat.zero_le _, rfl, hid_first _⟩
              case round =>
                obtain ⟨i, hile, rfl, hiinv⟩ := hrel
                by_cases hilt : i < (s.C).length
                · obtain ⟨bi, offi, ui, rfl, hbi, hcelli, hui⟩ := Hat.out.lt_ hilt
                  obtain ⟨A2, c2, rfl, hm2, hat2⟩ := hui.open_
                  by_cases hx : s.C[i].length = 1
                  · have hx1 : ((s.C[i].length : Int) == 1) = true := by rw [hx]; rfl
                    obtain ⟨n, hn⟩ := List.length_eq_one_iff.1 hx
                    have Hk := Lib.hid (show unitC s.C = some n from firstN_hit hiinv.out ((unAt_hit hilt hx).trans (by simp [hn])) hilt)
                    have hl3 : 0 < s.C[i].length := by omega
                    obtain ⟨b0, off0, u0, rfl, hb0, hcell0, hu0⟩ := hat2.lt_ (k := 0) hl3
                    obtain rfl := hu0
                    obtain ⟨_, hl1, hl2⟩ := (hok _ (List.getElem_mem hilt)).2 n (by rw [hn]; simp)
                    have Hin := Lib.hid (H.out.inner hilt hcelli)
                    have hn0 : s.C[i][0] = n := by simp [hn]
                    rw [hn0, Nat.add_zero] at hcell0
                    obtain ⟨AU, kU, rfl⟩ := own_shape H.out.oU
                    have HK := Lib.hid ((H.out.keep (below_alloc w (.cells #[.int .i64 n] 3))).keep (below_drewN (Below.refl _ _) 1))
                    have Hzd : Hid (((w.alloc (.cells #[.int .i64 n] 3)).drew).heap.size = w.heap.size + 1) := (by simp : ((w.alloc (.cells #[.int .i64 n] 3)).drew).heap.size = w.heap.size + 1)
                    have Hbk := Lib.hid (show Below g w ((w.alloc (.cells #[.int .i64 n] 3)).drew) from (below_drewN (below_alloc w (.cells #[.int .i64 n] 3)) 1).mono (Nat.le_of_lt hgl))
                    have Hbu : Hid (b0 < w.heap.size ∧ b0 ≠ g ∧ some b0 ≠ (Value.slice AU s.U.length kU).ownBlock) := by
                      obtain ⟨A', c', e', _, _, h3⟩ := Hin.out
                      cases e'
                      obtain ⟨b', off', e', hb', _⟩ := h3 (by omega)
                      cases e'
                      exact ⟨hb'.1, hb'.2.1, hb'.2.2.2⟩
                    clear hat2 hui hn0 hn hx
                    go_wp2
                    go_region_law? (first
                      | (refine step_append_own (by rfl) (.tmp 144) (.tmp 148) 27 (by rfl) (base := g + 1) eInt (.slice AU s.U.length kU) s.U.length (s.U.map (Value.int .i64)) (by rfl) HK.out.oU.drew ⟨w.heap.size, 0, none⟩ 1 1 [.int .i64 n] (by rfl) rfl ?_ (by simp [Value.oneCell']) (by omega) (by simp; omega) ?_
                         · intro j u hu
                           match j, hu with
                           | 0, hu => cases hu; simp [go_sem]
                         intro v5 w5 ho5 hg5 hat5
                         obtain ⟨A5, k5, rfl⟩ := own_shape ho5
                         have HP := Lib.hid (HK.out.pushU ho5 hg5 hat5)
                         have hb5 := HK.out.midg hg5 (fun e => by have := (HK.out.ltF.2 g e).1; omega)
                         have hd2 : w5.cell? ⟨g, 2, none⟩ = some (.slice AU s.U.length kU) := (by rw [cell_of_row _ _ 2 _ _ _ hb5]; rfl)
                         have hf2 : w5.frozen? ⟨g, 2, none⟩ = false := frozen_of_row w5 g 2 _ _ hb5
                         have hd0 : w5.cell? ⟨b0, off0, none⟩ = some (.int .i64 n) := (World.cell?_of_block (w := (w.alloc (.cells #[.int .i64 n] 3)).drew) (hg5.block b0 (by have := Hbu.out.1; have := Hzd.out; omega) Hbu.out.2.2)).trans ((World.cell?_drew _ _).trans ((World.cell?_alloc_lt _ _ _ Hbu.out.1).trans hcell0))
                         have hne0 : ¬ b0 = g := Hbu.out.2.1
                         have Hbx := Lib.hid ((Hbk.out.grown hg5 (by have := Hzd.out; omega) (fun i hi => by have := (HK.out.ltF.2 i hi).1; omega)).setCell (p := ⟨g, 2, none⟩) (Nat.le_refl _) (.slice A5 (s.U.length + 1) k5))
                         clear hb5 ho5 hg5 hat5))
                    all_goals
                      go_wp2_with (go_at_call 31; refine (rfix_any vars g ⟨s.C, s.F, s.U ++ [n], s.E⟩ n _ HP.out.rk hok (by omega) (by omega) hcl hfl).mono ?_; rintro e w6 ⟨rfl, hrk, hb6⟩)
                      go_ret
                      exact RStep.of (H3.out.did3 Hk.out) ⟨rfl, hrk, Hbx.out.trans hb6⟩
                  · have Hk := Lib.hid (show firstN (unAt s.C) (i + 1) = none from firstN_go hiinv.out (unAt_miss hilt hx))
                    have hx1 : ((s.C[i].length : Int) == 1) = false := by rw [beq_eq_false_iff_ne]; omega
                    clear hx hat2 hui
                    go_wp2
                    go_round
                    case rel => exact ⟨i + 1, by omega, by go_num, Hk⟩
                    case measure => simp [intOf]; omega
                · obtain rfl : i = (s.C).length := by omega
                  have H4 := Lib.hid (H3.out.next3 (show unitC s.C = none from hiinv.out))
                  clear hile H3
                  go_wp2
                  go_loop [18] (fun sv => ∃ v : Nat, 1 ≤ v ∧ v ≤ vars + 1 ∧ sv = .int .i64 v ∧ Hid (firstN (puAt s.C) v = none)) (fun sv => vars + 1 - (intOf sv).toNat)
                  case atStart => exact ⟨1, Nat.le_refl _, by omega, rfl, firstN_go (hid_first _) (puAt_zero _)⟩
                  case round =>
                    obtain ⟨v, hv1, hvle, rfl, hvinv⟩ := hrel
                    by_cases hvlt : v < vars + 1
                    · go_wp2
                      go_loop [168, 19, 20] (fun sv ya na => ∃ q : Nat, q ≤ s.C.length ∧ sv = .int .i64 q ∧ ∃ y n, ya = .bool y ∧ na = .bool n ∧ Hid (posB (s.C.take q) v = y ∧ posB (s.C.take q) (-(v : Int)) = n)) (fun sv _ _ => s.C.length - (intOf sv).toNat)
                      case atStart => exact ⟨0, Nat.zero_le _, rfl, _, _, rfl, rfl, rfl, rfl⟩
                      case round =>
                        obtain ⟨q, hqle, rfl, y, n, rfl, rfl, hyn⟩ := hrel
                        by_cases hqlt : q < s.C.length
                        · obtain ⟨bq, offq, uq, rfl, hbq, hcellq, huq⟩ := Hat.out.lt_ hqlt
                          have Huq := Lib.hid huq
                          obtain ⟨A2, c2, rfl, hm2, hat2⟩ := huq.open_
                          have Hp := Lib.hid (And.intro ((posB_succ hqlt v).trans (by rw [hyn.out.1])) ((posB_succ hqlt (-(v : Int))).trans (by rw [hyn.out.2])))
                          clear hat2 huq
                          cases y <;> cases n
                          all_goals
                            go_wp2_with (first | (go_at_call 29; refine (rhas_any _ _ s.C[q] _ Huq.out).mono ?_; rintro e w1 ⟨rfl, rfl⟩))
                            go_round
                            case rel => exact ⟨q + 1, by omega, by go_num, _, _, rfl, rfl, Hp.out⟩
                            case measure => simp [intOf]; omega
                        · obtain rfl : q = s.C.length := by omega
                          rw [List.take_length] at hyn
                          have Hyn := Lib.hid hyn.out
                          clear hyn
                          cases y <;> cases n
                          · have Hk := Lib.hid (show firstN (puAt s.C) (v + 1) = none from firstN_go hvinv.out (by rw [puAt, Hyn.out.1, Hyn.out.2]; rfl))
                            go_wp2
                            go_round
                            case rel => exact ⟨v + 1, by omega, by omega, by go_num, Hk⟩
                            case measure => simp [intOf]; omega
                          · have Hk := Lib.hid (show pureC vars s.C = some (-(v : Int)) from firstN_hit hvinv.out (by rw [puAt, Hyn.out.1, Hyn.out.2]; rfl) hvlt)
                            go_wp2_with (go_at_call 31; refine (rfix_any vars g s (-(v : Int)) _ H.out.rk hok (by omega) (by omega) hcl hfl).mono ?_; rintro e w6 ⟨rfl, hrk, hb6⟩)
                            go_ret
                            exact RStep.of (H4.out.did4 Hk.out) ⟨rfl, hrk, hb6⟩
                          · have Hk := Lib.hid (show pureC vars s.C = some (v : Int) from firstN_hit hvinv.out (by rw [puAt, Hyn.out.1, Hyn.out.2]; rfl) hvlt)
                            go_wp2_with (go_at_call 31; refine (rfix_any vars g s (v : Int) _ H.out.rk hok (by omega) (by omega) hcl hfl).mono ?_; rintro e w6 ⟨rfl, hrk, hb6⟩)
                            go_ret
                            exact RStep.of (H4.out.did4 Hk.out) ⟨rfl, hrk, hb6⟩
                          · have Hk := Lib.hid (show firstN (puAt s.C) (v + 1) = none from firstN_go hvinv.out (by rw [puAt, Hyn.out.1, Hyn.out.2]; rfl))
                            go_wp2
                            go_round
                            case rel => exact ⟨v + 1, by omega, by omega, by go_num, Hk⟩
                            case measure => simp [intOf]; omega
                    · obtain rfl : v = vars + 1 := by omega
                      have H5 := Lib.hid (H4.out.next4 (show pureC vars s.C = none from hvinv.out))
                      clear hvle hv1 H4
                      go_wp2
                      go_loop [208] (fun sv => ∃ i : Nat, i ≤ (s.C).length ∧ sv = .int .i64 i ∧ Hid (firstN (covAt s.C) i = none)) (fun sv => (s.C).length - (intOf sv).toNat)
                      case atStart => exact ⟨0, Nat.zero_le _, rfl, hid_first _⟩
                      case round =>
                        obtain ⟨i, hile, rfl, hiinv⟩ := hrel
                        by_cases hilt : i < (s.C).length
                        · obtain ⟨bi, offi, ui, rfl, hbi, hcelli, hui⟩ := Hat.out.lt_ hilt
                          obtain ⟨A2, c2, rfl, hm2, hat2⟩ := hui.open_
                          have Hat2 := Lib.hid hat2
                          clear hat2 hui
                          go_wp2
                          go_loop [218] (fun sv => ∃ k : Nat, k ≤ s.C.length ∧ sv = .int .i64 k ∧ Hid (firstN (cvA s.C i) k = none)) (fun sv => s.C.length - (intOf sv).toNat)
                          case atStart => exact ⟨0, Nat.zero_le _, rfl, hid_first _⟩
                          case round =>
                            obtain ⟨k, hkle, rfl, hkinv⟩ := hrel
                            by_cases hklt : k < s.C.length
                            · obtain ⟨uk, hcellk, huk⟩ := Hat.out.again hklt
                              have Huk := Lib.hid huk
                              obtain ⟨A3, c3, rfl, hm3, hat3⟩ := huk.open_
                              clear hat3 huk
                              have Hcv := Lib.hid (cvB_ref (H5.out.h1 (by omega)) hilt hklt)
                              have Hst : Hid (∃ b, b = (decide (i ≠ k) && (decide (s.C[i].length < s.C[k].length) || decide (i < k))) ∧ (i ≠ k → b = (decide (s.C[i].length < s.C[k].length) || decide (i < k))) ∧ (i = k → b = false)) :=
                                ⟨_, rfl, fun h => by simp [h], fun h => by simp [h]⟩
                              obtain ⟨b0, hb0, hb1, hb2⟩ := Hst.out
                              rw [← hb0] at Hcv
                              clear Hst hb0
                              have Hc : Hid ((i = k ∧ b0 = false) ∨ (i ≠ k ∧ s.C[i].length < s.C[k].length ∧ b0 = true) ∨ (i ≠ k ∧ ¬ s.C[i].length < s.C[k].length ∧ i < k ∧ b0 = true) ∨ (i ≠ k ∧ ¬ s.C[i].length < s.C[k].length ∧ ¬ i < k ∧ b0 = false)) := by
                                by_cases h1 : i = k
                                · exact .inl ⟨h1, hb2 h1⟩
                                have h2 := hb1 h1
                                by_cases h3 : s.C[i].length < s.C[k].length
                                · exact .inr (.inl ⟨h1, h3, by rw [h2]; simp [h3]⟩)
                                by_cases h4 : i < k
                                · exact .inr (.inr (.inl ⟨h1, h3, h4, by rw [h2]; simp [h4]⟩))
                                · exact .inr (.inr (.inr ⟨h1, h3, h4, by rw [h2]; simp [h3, h4]⟩))
                              clear hb1 hb2
                              obtain ⟨B, hB⟩ : ∃ B : Bool, Hid (B = b0) := ⟨_, rfl⟩
                              rw [← hB.out] at Hcv
                              have Hin : Hid ((((i : Int) != k) = false ∧ b0 = false) ∨ (((i : Int) != k) = true ∧ s.C[i].length < s.C[k].length ∧ b0 = true) ∨ (((i : Int) != k) = true ∧ s.C[k].length ≤ s.C[i].length ∧ i < k ∧ b0 = true) ∨ (((i : Int) != k) = true ∧ s.C[k].length ≤ s.C[i].length ∧ k ≤ i ∧ b0 = false)) := by
                                rcases Hc.out with ⟨h1, h2⟩ | ⟨h1, h3, h2⟩ | ⟨h1, h3, h4, h2⟩ | ⟨h1, h3, h4, h2⟩
                                · exact .inl ⟨by simp; omega, h2⟩
                                · exact .inr (.inl ⟨by simp; omega, h3, h2⟩)
                                · exact .inr (.inr (.inl ⟨by simp; omega, by omega, h4, h2⟩))
                                · exact .inr (.inr (.inr ⟨by simp; omega, by omega, by omega, h2⟩))
                              clear Hc
                              rcases Hin.out with ⟨e1, rfl⟩ | ⟨e1, e3, rfl⟩ | ⟨e1, e3, e4, rfl⟩ | ⟨e1, e3, e4, rfl⟩
                              all_goals
                                clear Hin
                                go_wp2
                                clear e1
                                go_loop [240, 27] (fun sv iv => ∃ q : Nat, q ≤ s.C[i].length ∧ sv = .int .i64 q ∧ ∃ b : Bool, iv = .bool b ∧ Hid ((B && (s.C[i].take q).all (hasB s.C[k])) = b)) (fun sv _ => s.C[i].length - (intOf sv).toNat)
                                case atStart => exact ⟨0, Nat.zero_le _, rfl, _, rfl, (by show (B && _) = _; rw [hB.out, List.take_zero, List.all_nil]; first | rfl | (rw [decide_eq_false (by omega), decide_eq_false (by omega)]; rfl) | (rw [decide_eq_true (by omega)]; rfl) | (simp; omega))⟩
                                case round =>
                                  obtain ⟨q, hqle, rfl, b, rfl, hb⟩ := hrel
                                  by_cases hqlt : q < s.C[i].length
                                  · obtain ⟨bq, offq, uq, rfl, hbq, hcellq, huq⟩ := Hat2.out.lt_ hqlt
                                    obtain rfl := huq
                                    have Hs := Lib.hid (show (B && (s.C[i].take (q + 1)).all (hasB s.C[k])) = (b && hasB s.C[k] s.C[i][q]) by rw [within_succ hqlt, ← Bool.and_assoc, hb.out])
                                    cases b
                                    all_goals
                                      go_wp2_with (go_at_call 29; refine (rhas_any _ _ s.C[k] _ Huk.out).mono ?_; rintro e w1 ⟨rfl, rfl⟩)
                                      go_round
                                      case rel => exact ⟨q + 1, by omega, by go_num, _, rfl, Hs.out⟩
                                      case measure => simp [intOf]; omega
                                  · obtain rfl : q = s.C[i].length := by omega
                                    rw [List.take_length] at hb
                                    have Hcb := Lib.hid (show cvB s.C i k = b from Hcv.out.trans hb.out)
                                    clear hb
                                    cases b with
                                    | false =>
                                      have Hk := Lib.hid (show firstN (cvA s.C i) (k + 1) = none from firstN_go hkinv.out (cvA_miss Hcb.out))
                                      go_wp2
                                      go_round
                                      case rel => exact ⟨k + 1, by omega, by go_num, Hk⟩
                                      case measure => simp [intOf]; omega
                                    | true =>
                                      have Hk := Lib.hid (show coverC s.C = some (s.C.eraseIdx k) from firstN_hit hiinv.out (show covAt s.C i = _ from firstN_hit hkinv.out (cvA_hit Hcb.out) hklt) hilt)
                                      go_wp2_with (go_at_call 30
                                                   refine (without_any (S := inR w g vF vU) _ s.C k _ (fun b hb => hb.1) H.out.cl hklt hcl).mono ?_
                                                   rintro e w2 ⟨v2, rfl, hb2, hr2⟩
                                                   have hd0 : w2.cell? ⟨g, 0, none⟩ = some (.slice (some ⟨bi, offi, none⟩) s.C.length c) := (hb2.cell (by exact hgl)).trans hc0
                                                   have hf0 : w2.frozen? ⟨g, 0, none⟩ = false := (hb2.frozen (by exact hgl)).trans (hfz 0)
                                                   have Hp := Lib.hid (show RPost g w (.bool true) (setC s (some (s.C.eraseIdx k))) (.returned (.bool true)) (w2.setCell ⟨g, 0, none⟩ v2) from ⟨rfl, (H.out.fresh hb2 hr2).rk, (hb2.mono (Nat.le_of_lt hgl)).setCell (Nat.le_refl _) _⟩)
                                                   obtain ⟨A9, k9, rfl⟩ := hr2.shape
                                                   clear hb2 hr2)
                                      go_ret
                                      exact RStep.of (H5.out.did5 Hk.out) Hp.out
                            · obtain rfl : k = s.C.length := by omega
                              have Hk := Lib.hid (show firstN (covAt s.C) (i + 1) = none from firstN_go hiinv.out hkinv.out)
                              go_wp2
                              go_round
                              case rel => exact ⟨i + 1, by omega, by go_num, Hk⟩
                              case measure => simp [intOf]; omega
                        · obtain rfl : i = (s.C).length := by omega
                          have Hk := Lib.hid (H5.out.next5 (show coverC s.C = none from hiinv.out)).none_
                          go_wp2
                          go_ret
                          exact RStep.no Hk.out ⟨rfl, H.out.rk, Below.refl _ _⟩
end Go.Proofs.Ytdofiipckcfopaa
