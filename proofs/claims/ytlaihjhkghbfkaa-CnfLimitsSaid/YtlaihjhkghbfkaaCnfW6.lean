/- Which numbers are right for a deal: what the program computes. -/
import Derived.Test.YtlaihjhkghbfkaaCnfMap
namespace Go.Proofs.Ytlaihjhkghbfkaa
open Go.RowKit

/-- What the program's map holds after some numbers. -/
def MapOf (items : List ItemD) (l : List Int) (f : KeyD → Option Value) : Prop :=
  (∀ n ∈ l, f (keyAt items n) = some (.int .i64 n)) ∧ ∀ k v, f k = some v → ∃ n ∈ l, keyAt items n = k ∧ v = .int .i64 n
theorem MapOf.nil_ (items : List ItemD) : MapOf items [] fun _ => none := ⟨fun _ h => absurd h (by simp), fun _ _ h => by simp at h⟩
theorem MapOf.push {items : List ItemD} {l : List Int} {f : KeyD → Option Value} (h : MapOf items l f) {n : Int} (hn : f (keyAt items n) = none ∨ f (keyAt items n) = some (.int .i64 n)) :
    MapOf items (l ++ [n]) (updF f (keyAt items n) (.int .i64 n)) := by
  refine ⟨fun m hm => ?_, fun k v hv => ?_⟩
  · simp only [updF]
    by_cases he : keyAt items m = keyAt items n
    · rw [if_pos he]
      rcases List.mem_append.1 hm with h1 | h1
      · have := h.1 m h1
        rw [he] at this
        rcases hn with h2 | h2
        · rw [h2] at this; simp at this
        · rw [h2] at this; exact this
      · simp at h1; rw [h1]
    · rw [if_neg he]
      rcases List.mem_append.1 hm with h1 | h1
      · exact h.1 m h1
      · simp at h1; exact absurd (by rw [h1]) he
  · simp only [updF] at hv
    split at hv
    · rename_i hk
      simp at hv
      exact ⟨n, by simp, hk.symm, hv.symm⟩
    · obtain ⟨m, h1, h2, h3⟩ := h.2 k v hv
      exact ⟨m, by simp [h1], h2, h3⟩
theorem MapOf.noClash {items : List ItemD} {l : List Int} {f : KeyD → Option Value} (h : MapOf items l f) : (l.all fun n => !l.any (clash items n)) = true := by
  refine List.all_eq_true.2 fun n hn => ?_
  simp only [Bool.not_eq_true', List.any_eq_false]
  intro k hk hc
  simp only [clash, Bool.and_eq_true, decide_eq_true_eq] at hc
  have h1 := h.1 n hn
  have h2 := h.1 k hk
  rw [hc.2.2, h1] at h2
  simp at h2
  exact hc.2.1 h2.symm
theorem zeroInt (w : World) : (zeroValue 3).run Try.prog w = .ok (.int .i64 0) w := by kernel_rfl

set_option maxRecDepth 100000 in
set_option maxHeartbeats 2000000 in
theorem Right_any (s0 s1 s2 : Value) (r : Int) (items : List ItemD) (wss : List (List (List Int))) (taken : List Int) (w : World) (h0 : RItems w (Lt w.heap.size) s0 items)
    (hw : RIntsss w (Lt w.heap.size) s1 wss) (ht : RInts w (Lt w.heap.size) s2 taken) :
    Calls Try.prog 17 #[.agg #[s0, s1, .int .i64 r], s2] w fun e w' => e = .returned (.bool (rightB items wss r taken)) ∧ Below w.heap.size w w' := by
  have Hw := Lib.hid hw; have Ht := Lib.hid ht
  obtain ⟨A0, c0, rfl, hm0, hat0⟩ := h0.open_
  obtain ⟨A1, c1, rfl, hm1, hat1⟩ := hw.open_
  obtain ⟨A2, c2, rfl, hm2, hat2⟩ := ht.open_
  clear h0 hw ht
  have Hat0 := Lib.hid hat0; clear hat0
  have Hat1 := Lib.hid hat1; clear hat1
  have Hat2 := Lib.hid hat2; clear hat2
  by_cases hmay : mayN items.length r wss = 0
  case neg =>
    have Hd := Lib.hid (show false = rightB items wss r taken by simp [rightB, hmay])
    have hmay' : (errOf (mayN items.length r wss) != (0 : Int)) = true := by
      have : mayN items.length r wss ≤ 2 := by unfold mayN; (repeat' split) <;> omega
      simp only [errOf, bne_iff_ne]; split
      · omega
      · split <;> omega
    go_enter Try.func17, Try.ntmps17
    go_wp2_with (go_at_call 11; refine (May_any _ _ _ _ _ _ _ (RIntsss.stable.up Hw.out ((below_alloc _ _).alloc (by simp) _))).mono ?_; rintro e w1 ⟨rfl, hb⟩)
    go_ret
    exact ⟨ret_bool Hd.out, ((below_alloc _ _).alloc (by simp) _).trans (hb.mono (by simp; omega))⟩
  case pos =>
  obtain ⟨hn0, hr, hlen, hbad⟩ := mayN_zero hmay
  have Hmay := Lib.hid hmay
  have hmay' : errOf (mayN items.length r wss) = 0 := by rw [hmay]; rfl
  have Hmay' := Lib.hid hmay'
  clear hmay hmay' hbad
  have hpos : 0 < items.length := by have := isItemB_iff.1 hr; omega
  clear hr
  have Hlen := Lib.hid hlen; clear hlen
  obtain ⟨bi, offi, rfl, hbi, hz1⟩ := item_cells Hat0.out hpos
  obtain ⟨bw, offw, uz, rfl, hbw, hz2, hz3⟩ := Hat1.out.lt_ (k := 0) (by rw [Hlen.out]; exact hpos)
  clear hz1 hz2 hz3
  cases hroot : hasB taken r with
  | false =>
    have Hd := Lib.hid (show false = rightB items wss r taken by simp [rightB, hroot])
    have Hroot := Lib.hid hroot; clear hroot
    go_enter Try.func17, Try.ntmps17
    go_wp2_with (first
      | (go_at_call 11; refine (May_any _ _ _ _ _ _ _ (RIntsss.stable.up Hw.out ((below_alloc _ _).alloc (by simp) _))).mono ?_; rintro e w1 ⟨rfl, hb⟩; rw [Hmay'.out]; obtain ⟨hx0, hx1, hx2, hx3⟩ := box3_1 hb)
      | (go_at_call 26; refine (Contains_any _ _ taken _ (B := w.heap.size) ?_).mono ?_; (exact RInts.stable.below Ht.out (((below_alloc _ _).alloc (by simp) _).trans (hb.mono (by simp; omega)))); rintro e w2 ⟨rfl, rfl⟩; rw [Hroot.out]))
    go_ret
    exact ⟨ret_bool Hd.out, ((below_alloc _ _).alloc (by simp) _).trans (hb.mono (by simp; omega))⟩
  | true =>
  have Hroot := Lib.hid hroot; clear hroot
  have hmm := @run_makeMap Try.prog
  go_enter Try.func17, Try.ntmps17
  go_wp2_with (first
      | (go_at_call 11; refine (May_any _ _ _ _ _ _ _ (RIntsss.stable.up Hw.out ((below_alloc _ _).alloc (by simp) _))).mono ?_; rintro e w1 ⟨rfl, hb⟩; rw [Hmay'.out]; obtain ⟨hx0, hx1, hx2, hx3⟩ := box3_1 hb; have hsz : w.heap.size + 1 < w1.heap.size := by (have := hb.size; simp at this; omega))
      | (go_at_call 26; refine (Contains_any _ _ taken _ (B := w.heap.size) ?_).mono ?_; (exact RInts.stable.below Ht.out (((below_alloc _ _).alloc (by simp) _).trans (hb.mono (by simp; omega)))); rintro e w2 ⟨rfl, rfl⟩; rw [Hroot.out]))
  have hbw1 : Below w.heap.size w w1 := ((below_alloc _ _).alloc (by simp) _).trans (hb.mono (by simp; omega))
  have Hbw := Lib.hid hbw1; clear hbw1 hb
  go_loopw [28] (fun sv wr => ∃ k : Nat, k ≤ taken.length ∧ sv = .int .i64 k ∧ Below w1.heap.size w1 wr ∧ w1.heap.size < wr.heap.size ∧ Hid ((taken.take k).all (isItemB items.length) = true) ∧ ∃ f, MapIs encKey wr w1.heap.size f ∧ MapOf items (taken.take k) f) (fun sv _ => taken.length - (intOf sv).toNat)
  case atStart => exact ⟨0, Nat.zero_le _, rfl, below_alloc _ _, by simp, by simp [Hid], _, MapIs.made _ _, MapOf.nil_ _⟩
  case round =>
    obtain ⟨k, hkle, rfl, hbel, hsz2, hkinv, f, hmap, hof⟩ := hrel
    have Hmap := Lib.hid hmap; have Hof := Lib.hid hof
    clear hmap hof
    have Hwr := Lib.hid (Hbw.out.trans (hbel.mono (by omega)))
    have hb0 := (hbel.cell (p := ⟨w.heap.size, 0, none⟩) (by simp; omega)).trans hx0
    have hb1 := (hbel.cell (p := ⟨w.heap.size, 1, none⟩) (by simp; omega)).trans hx1
    have hb2 := (hbel.cell (p := ⟨w.heap.size, 2, none⟩) (by simp; omega)).trans hx2
    have hb3 := (hbel.cell (p := ⟨w.heap.size + 1, 0, none⟩) (by simp; omega)).trans hx3
    have Hbel := Lib.hid hbel; clear hbel
    by_cases hklt : k < taken.length
    · obtain ⟨bk, offk, uk, rfl, hbk, hcellk, huk⟩ := Hat2.out.at_ RInt.stable (ag_of_below Hwr.out) hklt
      obtain rfl := huk
      cases hit : isItemB items.length taken[k] with
      | false =>
        have Hit := Lib.hid hit
        have Hd := Lib.hid (show false = rightB items wss r taken by
          have : taken.all (isItemB items.length) = false := all_at (h := hklt) hit
          simp [rightB, this])
        clear hit
        go_wp2_with (go_at_call 21; refine (isItem_any _ _ _ _ _ _ _).mono ?_; rintro e w2 ⟨rfl, hb2⟩; rw [Hit.out])
        go_ret
        exact ⟨ret_bool Hd.out, Hwr.out.trans (hb2.mono (by have := Hwr.out.size; omega))⟩
      | true =>
        have Hit := Lib.hid hit
        obtain ⟨hge, hlt⟩ := isItemB_iff.1 hit
        clear hit
        have hlt1 : (taken[k]).toNat < items.length := by omega
        cases hfk : f (keyAt items taken[k]) with
        | none =>
          have Hfk := Lib.hid hfk; clear hfk
          go_wp2_with (first
            | (go_at_call 21; refine (isItem_any _ _ _ _ _ _ _).mono ?_; rintro e w2 ⟨rfl, hq2⟩; rw [Hit.out];
               obtain ⟨hi0, hi1, hi2, hi3, hi4⟩ := item_again (Hat0.out.agree (VCells.stable _) (ag_of_below (Hwr.out.trans (hq2.mono Hwr.out.size))) (fun _ h => h)) hlt1; clear hi4;
               have hc0 := (hq2.cell (p := ⟨w.heap.size, 0, none⟩) (by simp; omega)).trans hb0; have hc1 := (hq2.cell (p := ⟨w.heap.size, 1, none⟩) (by simp; omega)).trans hb1; have hc2 := (hq2.cell (p := ⟨w.heap.size, 2, none⟩) (by simp; omega)).trans hb2; have hc3 := (hq2.cell (p := ⟨w.heap.size + 1, 0, none⟩) (by simp; omega)).trans hb3; clear hb0 hb1 hb2 hb3; have hsz3 := hq2.size)
            | (at_lookup; refine wpList_lookup_is (kt := 47) (vt := 3) rfl _ _ _ rfl keyLaw Try.underlying62 zeroInt rfl (keyAt items taken[k]) (by rw [keyAt_eq hlt1]; rfl) (Hmap.out.agree ?_) ?_; (exact (Below.heap_alloc _ _ _ (by omega)).trans (hq2.block _ hsz2)); rw [Hfk.out])
            | (at_mapUpdate; refine wpList_mapUpdate_is (kt := 47) (vt := 3) rfl _ _ _ rfl keyLaw Try.underlying62 rfl (keyAt items taken[k]) (by rw [keyAt_eq hlt1]; rfl) (.int .i64 taken[k]) rfl (Hmap.out.agree ?_) ?_; (exact (Below.heap_alloc _ _ _ (by omega)).trans (hq2.block _ hsz2)); intro w3 hmap3 hg3 hs3))
          go_roundw
          case rel => exact ⟨k + 1, by omega, by go_num, ((Hbel.out.trans (hq2.mono (by omega))).alloc (by omega) _).grown hg3 (by simp; omega) (fun i e => by simp at e; omega), by rw [hs3]; simp; omega, by rw [Hid, all_take_succ _ _ _ hklt, hkinv.out, Hit.out]; rfl, _, hmap3, by rw [List.take_succ_eq_append_getElem hklt]; exact Hof.out.push (.inl Hfk.out)⟩
          case measure => simp [intOf]; omega
        | some v =>
          obtain ⟨m, hml, hmk, rfl⟩ := Hof.out.2 _ _ hfk
          have Hfk := Lib.hid hfk; clear hfk
          by_cases hsame : m = taken[k]
          · have hsame' : (m != taken[k]) = false := by simp [hsame]
            have Hsame := Lib.hid hsame; clear hsame
            go_wp2_with (first
              | (go_at_call 21; refine (isItem_any _ _ _ _ _ _ _).mono ?_; rintro e w2 ⟨rfl, hq2⟩; rw [Hit.out];
                 obtain ⟨hi0, hi1, hi2, hi3, hi4⟩ := item_again (Hat0.out.agree (VCells.stable _) (ag_of_below (Hwr.out.trans (hq2.mono Hwr.out.size))) (fun _ h => h)) hlt1; clear hi4;
                 have hc0 := (hq2.cell (p := ⟨w.heap.size, 0, none⟩) (by simp; omega)).trans hb0; have hc1 := (hq2.cell (p := ⟨w.heap.size, 1, none⟩) (by simp; omega)).trans hb1; have hc2 := (hq2.cell (p := ⟨w.heap.size, 2, none⟩) (by simp; omega)).trans hb2; have hc3 := (hq2.cell (p := ⟨w.heap.size + 1, 0, none⟩) (by simp; omega)).trans hb3; clear hb0 hb1 hb2 hb3; have hsz3 := hq2.size)
              | (at_lookup; refine wpList_lookup_is (kt := 47) (vt := 3) rfl _ _ _ rfl keyLaw Try.underlying62 zeroInt rfl (keyAt items taken[k]) (by rw [keyAt_eq hlt1]; rfl) (Hmap.out.agree ?_) ?_; (exact (Below.heap_alloc _ _ _ (by omega)).trans (hq2.block _ hsz2)); rw [Hfk.out])
              | (at_mapUpdate; refine wpList_mapUpdate_is (kt := 47) (vt := 3) rfl _ _ _ rfl keyLaw Try.underlying62 rfl (keyAt items taken[k]) (by rw [keyAt_eq hlt1]; rfl) (.int .i64 taken[k]) rfl (Hmap.out.agree ?_) ?_; (exact (Below.heap_alloc _ _ _ (by omega)).trans (hq2.block _ hsz2)); intro w3 hmap3 hg3 hs3))
            go_roundw
            case rel => exact ⟨k + 1, by omega, by go_num, ((Hbel.out.trans (hq2.mono (by omega))).alloc (by omega) _).grown hg3 (by simp; omega) (fun i e => by simp at e; omega), by rw [hs3]; simp; omega, by rw [Hid, all_take_succ _ _ _ hklt, hkinv.out, Hit.out]; rfl, _, hmap3, by rw [List.take_succ_eq_append_getElem hklt]; exact Hof.out.push (.inr (by rw [Hfk.out, Hsame.out]))⟩
            case measure => simp [intOf]; omega
          · have hsame' : (m != taken[k]) = true := by simp [hsame]
            have Hd := Lib.hid (show false = rightB items wss r taken by
              obtain ⟨j, hj, hjm⟩ := List.getElem_of_mem (List.mem_of_mem_take hml)
              have : (taken.all fun n => !taken.any (clash items n)) = false := all_at (h := hklt) (by
                have hall := List.all_eq_true.1 hkinv.out m hml
                rw [any_at (h := hj) (by rw [hjm]; simp [clash, hsame, hmk, hall])]; rfl)
              simp [rightB, this])
            clear hsame
            go_wp2_with (first
              | (go_at_call 21; refine (isItem_any _ _ _ _ _ _ _).mono ?_; rintro e w2 ⟨rfl, hq2⟩; rw [Hit.out];
                 obtain ⟨hi0, hi1, hi2, hi3, hi4⟩ := item_again (Hat0.out.agree (VCells.stable _) (ag_of_below (Hwr.out.trans (hq2.mono Hwr.out.size))) (fun _ h => h)) hlt1; clear hi4;
                 have hc0 := (hq2.cell (p := ⟨w.heap.size, 0, none⟩) (by simp; omega)).trans hb0; have hc1 := (hq2.cell (p := ⟨w.heap.size, 1, none⟩) (by simp; omega)).trans hb1; have hc2 := (hq2.cell (p := ⟨w.heap.size, 2, none⟩) (by simp; omega)).trans hb2; have hc3 := (hq2.cell (p := ⟨w.heap.size + 1, 0, none⟩) (by simp; omega)).trans hb3; clear hb0 hb1 hb2 hb3; have hsz3 := hq2.size)
              | (at_lookup; refine wpList_lookup_is (kt := 47) (vt := 3) rfl _ _ _ rfl keyLaw Try.underlying62 zeroInt rfl (keyAt items taken[k]) (by rw [keyAt_eq hlt1]; rfl) (Hmap.out.agree ?_) ?_; (exact (Below.heap_alloc _ _ _ (by omega)).trans (hq2.block _ hsz2)); rw [Hfk.out]))
            go_ret
            exact ⟨ret_bool Hd.out, (Hwr.out.trans (hq2.mono (by have := Hwr.out.size; omega))).alloc (by have := Hwr.out.size; omega) _⟩
    · obtain rfl : k = taken.length := by omega
      rw [List.take_length] at hkinv Hof
      have Hnc := Lib.hid Hof.out.noClash
      have Hat2' := Lib.hid (Hat2.out.agree RInt.stable (ag_of_below Hwr.out) (fun _ h => h))
      have Hat1' := Lib.hid (Hat1.out.agree RIntss.stable (ag_of_below Hwr.out) (fun _ h => h))
      have Ht' := Lib.hid (RInts.stable.below Ht.out Hwr.out)
      clear Hof Hmap hx0 hx1 hx2 hx3
      have Hb3 := Lib.hid hb3
      go_wp2
      go_loop [60] (fun sv => ∃ i : Nat, i ≤ (taken).length ∧ sv = .int .i64 i ∧ Hid ((taken.take i).all (fun n => (wantsAt wss n).all (wantOk taken)) = true)) (fun sv => (taken).length - (intOf sv).toNat)
      case atStart => exact ⟨0, Nat.zero_le _, rfl, (by simp [Hid])⟩
      case round =>
        obtain ⟨i, hile, rfl, hiinv⟩ := hrel
        by_cases hilt : i < (taken).length
        · obtain ⟨bi, offi, ui, rfl, hbi, hcelli, hui⟩ := Hat2'.out.lt_ hilt
          obtain rfl := hui
          have hit := List.all_eq_true.1 hkinv.out _ (List.getElem_mem hilt)
          obtain ⟨hge, hlt⟩ := isItemB_iff.1 hit
          clear hit
          have hlt3 : (taken[i]).toNat < wss.length := by have := Hlen.out; omega
          obtain ⟨uw, hcellw, huw⟩ := Hat1'.out.again hlt3
          obtain ⟨A3, c3, rfl, hm3, hat3⟩ := huw.open_
          have Hat3 := Lib.hid hat3; clear hat3
          have hltw : taken[i] < (wss.length : Int) := by have := Hlen.out; omega
          go_wp2
          go_loop [70] (fun sv => ∃ j : Nat, j ≤ (wss[(taken[i]).toNat]).length ∧ sv = .int .i64 j ∧ Hid (((wss[(taken[i]).toNat]).take j).all (wantOk taken) = true)) (fun sv => (wss[(taken[i]).toNat]).length - (intOf sv).toNat)
          case atStart => exact ⟨0, Nat.zero_le _, rfl, (by simp [Hid])⟩
          case round =>
            obtain ⟨j, hjle, rfl, hjinv⟩ := hrel
            by_cases hjlt : j < (wss[(taken[i]).toNat]).length
            · obtain ⟨bj, offj, uj, rfl, hbj, hcellj, huj⟩ := Hat3.out.lt_ hjlt
              have Huj := Lib.hid huj
              obtain ⟨A4, c4, rfl, _, _⟩ := huj
              cases hany : wantOk taken wss[(taken[i]).toNat][j] with
              | true =>
                have Hany := Lib.hid (show (wss[(taken[i]).toNat][j]).any (hasB taken) = true from hany); clear hany
                go_wp2_with (go_at_call 27; refine (ContainsFunc_any 28 _ (hasB taken) _ _ _ Huj.out callFunc_right (fun x => RightFn_any x _ _ taken _ Hb3.out Ht'.out)).mono ?_; rintro e w2 ⟨rfl, rfl⟩; rw [Hany.out])
                go_round
                case rel => exact ⟨j + 1, by omega, by go_num, (by rw [Hid, all_take_succ _ _ _ hjlt, hjinv.out, show wantOk taken wss[(taken[i]).toNat][j] = true from Hany.out]; rfl)⟩
                case measure => simp [intOf]; omega
              | false =>
                have Hd := Lib.hid (show false = rightB items wss r taken by
                  have : (taken.all fun n => (wantsAt wss n).all (wantOk taken)) = false := all_at (h := hilt) (by rw [wantsAt_eq hlt3]; exact all_at (h := hjlt) hany)
                  simp [rightB, this])
                have Hany := Lib.hid (show (wss[(taken[i]).toNat][j]).any (hasB taken) = false from hany); clear hany
                go_wp2_with (go_at_call 27; refine (ContainsFunc_any 28 _ (hasB taken) _ _ _ Huj.out callFunc_right (fun x => RightFn_any x _ _ taken _ Hb3.out Ht'.out)).mono ?_; rintro e w2 ⟨rfl, rfl⟩; rw [Hany.out])
                go_ret
                exact ⟨ret_bool Hd.out, Hwr.out⟩
            · obtain rfl : j = (wss[(taken[i]).toNat]).length := by omega
              rw [List.take_length] at hjinv
              go_wp2
              go_round
              case rel => exact ⟨i + 1, by omega, by go_num, (by rw [Hid, all_take_succ _ _ _ hilt, hiinv.out, wantsAt_eq hlt3, hjinv.out]; rfl)⟩
              case measure => simp [intOf]; omega
        · obtain rfl : i = (taken).length := by omega
          rw [List.take_length] at hiinv
          go_wp2
          go_ret
          exact ⟨ret_bool (by rw [rightB, Hmay.out, Hroot.out, hkinv.out, Hnc.out, hiinv.out]; rfl), Hwr.out⟩
end Go.Proofs.Ytlaihjhkghbfkaa
