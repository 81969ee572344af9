/- Which numbers are right for a deal: what the reference computes. / The key type of deals' items as a map's key; map operations as steps of a walk. / Which numbers are right for a deal: what the program computes. / .. -/
import Derived.Laws.EntriesVeiled
import Derived.Deep.LoopGhost
import Derived.Test.YtcebafeaikipmaaCa1
namespace Go.Proofs.Ytcebafeaikipmaa
open Go.RowKit

def keyAt (items : List ItemD) (n : Int) : KeyD := ((items[n.toNat]?).map (·.1)).getD (⟨#[]⟩, ⟨#[]⟩, ⟨#[]⟩, ⟨#[]⟩)
def wantsAt (wss : List (List (List Int))) (n : Int) : List (List Int) := (wss[n.toNat]?).getD []
def clash (items : List ItemD) (n k : Int) : Bool := isItemB items.length k && (decide (k ≠ n) && decide (keyAt items k = keyAt items n))
def wantOk (taken : List Int) (w : List Int) : Bool := w.any (hasB taken)
def rightB (items : List ItemD) (wss : List (List (List Int))) (r : Int) (taken : List Int) : Bool :=
  decide (mayN items.length r wss = 0) && hasB taken r && taken.all (isItemB items.length) && (taken.all fun n => !taken.any (clash items n)) && taken.all fun n => (wantsAt wss n).all (wantOk taken)

theorem keyAt_eq {items : List ItemD} {n : Int} (h : n.toNat < items.length) : keyAt items n = items[n.toNat].1 := by simp [keyAt, h]
theorem wantsAt_eq {wss : List (List (List Int))} {n : Int} (h : n.toNat < wss.length) : wantsAt wss n = wss[n.toNat] := by simp [wantsAt, h]
theorem isItemB_iff {n0 : Nat} {n : Int} : isItemB n0 n = true ↔ 0 ≤ n ∧ n < n0 := by simp [isItemB]
theorem mayN_zero {n0 : Nat} {r : Int} {wss : List (List (List Int))} (h : mayN n0 r wss = 0) : n0 ≤ 1024 ∧ isItemB n0 r = true ∧ wss.length = n0 ∧ badRR n0 wss = false := by
  unfold mayN at h
  split at h
  · simp at h
  · split at h
    · simp at h
    · split at h
      · simp at h
      · rename_i h1 h2 h3
        simp at h2 h3
        exact ⟨by omega, h2.1, h2.2, h3⟩
/-- The five cells of an item. -/
theorem item_cells {w : World} {n : Nat} {A : Option Addr} {items : List ItemD} (h : RAtV 5 VItem w (Lt n) A items) {k : Nat} (hk : k < items.length) :
    ∃ b off, A = some ⟨b, off, none⟩ ∧ b < n ∧ w.cell? ⟨b, off + k * 5, none⟩ = some (.string items[k].1.1) ∧ w.cell? ⟨b, off + k * 5 + 1, none⟩ = some (.string items[k].1.2.1) ∧
      w.cell? ⟨b, off + k * 5 + 2, none⟩ = some (.string items[k].1.2.2.1) ∧ w.cell? ⟨b, off + k * 5 + 3, none⟩ = some (.string items[k].1.2.2.2) ∧ w.cell? ⟨b, off + k * 5 + 4, none⟩ = some (.string items[k].2) := by
  obtain ⟨b, off, e, hb, hc⟩ := h (by omega)
  have := hc k hk
  exact ⟨b, off, e, hb, this 0 _ rfl, this 1 _ rfl, this 2 _ rfl, this 3 _ rfl, this 4 _ rfl⟩
theorem key_beq {a b : KeyD} : (a.1.toList == b.1.toList && (a.2.1.toList == b.2.1.toList && (a.2.2.1.toList == b.2.2.1.toList && a.2.2.2.toList == b.2.2.2.toList))) = decide (a = b) := by
  rw [ba_beq, ba_beq, ba_beq, ba_beq, Bool.eq_iff_iff]
  simp only [Bool.and_eq_true, decide_eq_true_eq, Prod.ext_iff]

theorem item_again {w : World} {n b off : Nat} {items : List ItemD} (h : RAtV 5 VItem w (Lt n) (some ⟨b, off, none⟩) items) {k : Nat} (hk : k < items.length) :
    w.cell? ⟨b, off + k * 5, none⟩ = some (.string items[k].1.1) ∧ w.cell? ⟨b, off + k * 5 + 1, none⟩ = some (.string items[k].1.2.1) ∧
      w.cell? ⟨b, off + k * 5 + 2, none⟩ = some (.string items[k].1.2.2.1) ∧ w.cell? ⟨b, off + k * 5 + 3, none⟩ = some (.string items[k].1.2.2.2) ∧ w.cell? ⟨b, off + k * 5 + 4, none⟩ = some (.string items[k].2) := by
  obtain ⟨b', off', e, _, h5⟩ := item_cells h hk
  simp only [Option.some.injEq, Addr.mk.injEq, and_true] at e
  obtain ⟨rfl, rfl⟩ := e
  exact h5
theorem eqKey (a b : KeyD) (W : World) : (binOp .eql 33 (.agg #[.string a.1, .string a.2.1, .string a.2.2.1, .string a.2.2.2]) (.agg #[.string b.1, .string b.2.1, .string b.2.2.1, .string b.2.2.2])).run Try.prog W = .ok (.bool (decide (a = b))) W := by
  rw [← key_beq]
  go_simp
  (repeat' split) <;> simp_all

set_option maxRecDepth 100000 in
set_option maxHeartbeats 2000000 in
theorem refRight_any (s0 s1 s2 : Value) (r : Int) (items : List ItemD) (wss : List (List (List Int))) (taken : List Int) (w : World) (h0 : RItems w (Lt w.heap.size) s0 items)
    (hw : RIntsss w (Lt w.heap.size) s1 wss) (ht : RInts w (Lt w.heap.size) s2 taken) :
    Calls Try.prog 38 #[.agg #[s0, s1, .int .i64 r], s2] w fun e w' => e = .returned (.bool (rightB items wss r taken)) ∧ Below w.heap.size w w' := by
  have Hw := Lib.hid hw; have Ht := Lib.hid ht
  obtain ⟨A0, c0, rfl, hm0, hat0⟩ := h0.open_
  obtain ⟨A1, c1, rfl, hm1, hat1⟩ := hw.open_
  obtain ⟨A2, c2, rfl, hm2, hat2⟩ := ht.open_
  clear h0 hw ht
  have Hat0 := Lib.hid hat0; clear hat0
  have Hat1 := Lib.hid hat1; clear hat1
  have Hat2 := Lib.hid hat2; clear hat2
  by_cases hmay : mayN items.length r wss = 0
  case neg =>
    have Hd := Lib.hid (show false = rightB items wss r taken by simp [rightB, hmay])
    have hmay' : ((mayN items.length r wss : Nat) != (0 : Int)) = true := by simp; omega
    go_enter Try.func38, Try.ntmps38
    go_wp2_with (go_at_call 16; refine (refMay_any _ _ _ _ _ _ _ (RIntsss.stable.up Hw.out (below_alloc _ _))).mono ?_; rintro e w1 ⟨rfl, hb⟩; obtain ⟨hc0, hc1, hc2⟩ := box3 hb)
    go_ret
    exact ⟨ret_bool Hd.out, ((Below.refl _ _).alloc (Nat.le_refl _) _).trans (hb.mono (by simp))⟩
  case pos =>
  cases hroot : hasB taken r with
  | false =>
    have Hd := Lib.hid (show false = rightB items wss r taken by simp [rightB, hroot])
    have Hroot := Lib.hid hroot; clear hroot
    have hmay' : ((mayN items.length r wss : Nat) != (0 : Int)) = false := by simp [hmay]
    have Hmay := Lib.hid hmay; clear hmay
    go_enter Try.func38, Try.ntmps38
    go_wp2_with (first
      | (go_at_call 16; refine (refMay_any _ _ _ _ _ _ _ (RIntsss.stable.up Hw.out (below_alloc _ _))).mono ?_; rintro e w1 ⟨rfl, hb⟩; obtain ⟨hc0, hc1, hc2⟩ := box3 hb)
      | (go_at_call 45; refine (has_any _ _ taken _ (B := w.heap.size) ?_).mono ?_; (exact RInts.stable.below Ht.out ((below_alloc _ _).trans (hb.mono (by simp)))); rintro e w2 ⟨rfl, rfl⟩; rw [Hroot.out]))
    go_ret
    exact ⟨ret_bool Hd.out, (below_alloc _ _).trans (hb.mono (by simp))⟩
  | true =>
  obtain ⟨hn0, hr, hlen, hbad⟩ := mayN_zero hmay
  have Hroot := Lib.hid hroot; clear hroot
  have hmay' : ((mayN items.length r wss : Nat) != (0 : Int)) = false := by simp [hmay]
  have Hmay := Lib.hid hmay; clear hmay
  have Hbad := Lib.hid hbad; clear hbad
  have Hr := Lib.hid hr; clear hr
  have Hlen := Lib.hid hlen; clear hlen
  go_enter Try.func38, Try.ntmps38
  go_wp2_with (first
      | (go_at_call 16; refine (refMay_any _ _ _ _ _ _ _ (RIntsss.stable.up Hw.out (below_alloc _ _))).mono ?_; rintro e w1 ⟨rfl, hb⟩; obtain ⟨hc0, hc1, hc2⟩ := box3 hb)
      | (go_at_call 45; refine (has_any _ _ taken _ (B := w.heap.size) ?_).mono ?_; (exact RInts.stable.below Ht.out ((below_alloc _ _).trans (hb.mono (by simp)))); rintro e w2 ⟨rfl, rfl⟩; rw [Hroot.out]))
  have hbw : Below w.heap.size w w1 := (below_alloc _ _).trans (hb.mono (by simp))
  have Hbw := Lib.hid hbw
  have Ht1 := Lib.hid (RInts.stable.below Ht.out hbw)
  have Hat2' := Lib.hid (Hat2.out.agree RInt.stable (ag_of_below hbw) (fun _ h => h))
  have Hat1' := Lib.hid (Hat1.out.agree RIntss.stable (ag_of_below hbw) (fun _ h => h))
  have Hat0' := Lib.hid (Hat0.out.agree (VCells.stable _) (ag_of_below hbw) (fun _ h => h))
  clear hbw hb Hat0 Hat1 Hat2 Ht Hw
  go_loopw [26] (fun sv wr => ∃ k : Nat, k ≤ taken.length ∧ sv = .int .i64 k ∧ (∃ m, wr = w1.drewN m) ∧ Hid ((taken.take k).all (fun n => isItemB items.length n && !taken.any (clash items n) && (wantsAt wss n).all (wantOk taken)) = true)) (fun sv _ => taken.length - (intOf sv).toNat)
  case atStart => exact ⟨0, Nat.zero_le _, rfl, ⟨0, rfl⟩, by simp [Hid]⟩
  case round =>
    obtain ⟨k, hkle, rfl, ⟨m, rfl⟩, hkinv⟩ := hrel
    by_cases hklt : k < taken.length
    · obtain ⟨bk, offk, uk, rfl, hbk, hcellk, huk⟩ := Hat2'.out.lt_ hklt
      obtain rfl := huk
      by_cases hneg : taken[k] < 0
      · have Hd := Lib.hid (show false = rightB items wss r taken by
          have : taken.all (isItemB items.length) = false := all_at (h := hklt) (by simp [isItemB]; omega)
          simp [rightB, this])
        go_wp2
        go_ret
        exact ⟨ret_bool Hd.out, below_drewN Hbw.out _⟩
      by_cases hbig : (items.length : Int) ≤ taken[k]
      · have Hd := Lib.hid (show false = rightB items wss r taken by
          have : taken.all (isItemB items.length) = false := all_at (h := hklt) (by simp [isItemB]; omega)
          simp [rightB, this])
        go_wp2
        go_ret
        exact ⟨ret_bool Hd.out, below_drewN Hbw.out _⟩
      have hlt1 : (taken[k]).toNat < items.length := by omega
      obtain ⟨bi, offi, rfl, hbi, hi0, hi1, hi2, hi3, hi4⟩ := item_cells Hat0'.out hlt1
      clear hi4
      go_wp2
      go_loopw [41] (fun sv wr => ∃ j : Nat, j ≤ taken.length ∧ sv = .int .i64 j ∧ (∃ m, wr = w1.drewN m) ∧ Hid ((taken.take j).any (clash items taken[k]) = false)) (fun sv _ => taken.length - (intOf sv).toNat)
      case atStart => exact ⟨0, Nat.zero_le _, rfl, ⟨m, rfl⟩, hid_nil_any _ _⟩
      case round =>
        obtain ⟨j, hjle, rfl, ⟨m2, rfl⟩, hjinv⟩ := hrel
        by_cases hjlt : j < taken.length
        · obtain ⟨uj, hcellj, huj⟩ := Hat2'.out.again hjlt
          obtain rfl := huj
          by_cases hneg2 : taken[j] < 0
          · have Hc := Lib.hid (show clash items taken[k] taken[j] = false by simp [clash, isItemB]; omega)
            have hg1 : decide (0 ≤ taken[j]) = false := by simpa using hneg2
            go_wp2
            go_quiet (fail)
            go_wp2
            go_roundw
            case rel => exact ⟨j + 1, by omega, by go_num, ⟨_, rfl⟩, hid_any_succ hjlt hjinv Hc.out⟩
            case measure => simp [intOf]; omega
          have hg1 : decide (0 ≤ taken[j]) = true := by simpa using hneg2
          by_cases hbig2 : (items.length : Int) ≤ taken[j]
          · have Hc := Lib.hid (show clash items taken[k] taken[j] = false by simp [clash, isItemB]; omega)
            have hg2 : decide (taken[j] < (items.length : Int)) = false := by simpa using hbig2
            go_wp2
            go_quiet (fail)
            go_wp2
            go_roundw
            case rel => exact ⟨j + 1, by omega, by go_num, ⟨_, rfl⟩, hid_any_succ hjlt hjinv Hc.out⟩
            case measure => simp [intOf]; omega
          have hg2 : decide (taken[j] < (items.length : Int)) = true := by simpa using hbig2
          by_cases hsame : taken[j] = taken[k]
          · have Hc := Lib.hid (show clash items taken[k] taken[j] = false by simp [clash, hsame])
            have hg3 : (taken[j] != taken[k]) = false := by simp [hsame]
            clear hsame
            go_wp2
            go_quiet (fail)
            go_wp2
            go_roundw
            case rel => exact ⟨j + 1, by omega, by go_num, ⟨_, rfl⟩, hid_any_succ hjlt hjinv Hc.out⟩
            case measure => simp [intOf]; omega
          have hg3 : (taken[j] != taken[k]) = true := by simp [hsame]
          have hlt2 : (taken[j]).toNat < items.length := by omega
          obtain ⟨hj0, hj1, hj2, hj3, _⟩ := item_again Hat0'.out hlt2
          have Hcl := Lib.hid (show clash items taken[k] taken[j] = decide (items[(taken[j]).toNat].1 = items[(taken[k]).toNat].1) by
            rw [clash, keyAt_eq hlt1, keyAt_eq hlt2, show isItemB items.length taken[j] = true by simp [isItemB]; omega]; simp [hsame])
          clear hsame
          cases hq : decide (items[(taken[j]).toNat].1 = items[(taken[k]).toNat].1) with
          | true =>
            have heq : ∀ W : World, (binOp .eql 33 (.agg #[.string items[(taken[j]).toNat].1.1, .string items[(taken[j]).toNat].1.2.1, .string items[(taken[j]).toNat].1.2.2.1, .string items[(taken[j]).toNat].1.2.2.2]) (.agg #[.string items[(taken[k]).toNat].1.1, .string items[(taken[k]).toNat].1.2.1, .string items[(taken[k]).toNat].1.2.2.1, .string items[(taken[k]).toNat].1.2.2.2])).run Try.prog W = .ok (.bool true) W := fun W => by rw [eqKey, hq]
            have Hd := Lib.hid (show false = rightB items wss r taken by
              have : (taken.all fun n => !taken.any (clash items n)) = false := all_at (h := hklt) (by rw [any_at (h := hjlt) (by rw [Hcl.out, hq])]; rfl)
              simp [rightB, this])
            clear hq
            go_wp2
            go_quiet (fail)
            go_wp2
            go_ret
            exact ⟨ret_bool Hd.out, below_drewN (below_drewN Hbw.out _) _⟩
          | false =>
            have heq : ∀ W : World, (binOp .eql 33 (.agg #[.string items[(taken[j]).toNat].1.1, .string items[(taken[j]).toNat].1.2.1, .string items[(taken[j]).toNat].1.2.2.1, .string items[(taken[j]).toNat].1.2.2.2]) (.agg #[.string items[(taken[k]).toNat].1.1, .string items[(taken[k]).toNat].1.2.1, .string items[(taken[k]).toNat].1.2.2.1, .string items[(taken[k]).toNat].1.2.2.2])).run Try.prog W = .ok (.bool false) W := fun W => by rw [eqKey, hq]
            have Hc := Lib.hid (Hcl.out.trans hq)
            clear hq
            go_wp2
            go_quiet (fail)
            go_wp2
            go_roundw
            case rel => exact ⟨j + 1, by omega, by go_num, ⟨_, rfl⟩, hid_any_succ hjlt hjinv Hc.out⟩
            case measure => simp [intOf]; omega
        · obtain rfl : j = taken.length := by omega
          have Hnc := Lib.hid (hid_any_end hjinv)
          have hlt3 : (taken[k]).toNat < wss.length := by have := Hlen.out; omega
          obtain ⟨bw, offw, uw, rfl, hbw, hcellw, huw⟩ := Hat1'.out.lt_ hlt3
          obtain ⟨A3, c3, rfl, hm3, hat3⟩ := huw.open_
          have Hat3 := Lib.hid hat3; clear hat3
          clear hi0 hi1 hi2 hi3
          go_wp2
          go_loopw [81] (fun sv wr => ∃ i : Nat, i ≤ (wss[(taken[k]).toNat]).length ∧ sv = .int .i64 i ∧ (∃ m, wr = w1.drewN m) ∧ Hid (((wss[(taken[k]).toNat]).take i).all (wantOk taken) = true)) (fun sv _ => (wss[(taken[k]).toNat]).length - (intOf sv).toNat)
          case atStart => exact ⟨0, Nat.zero_le _, rfl, ⟨m2, rfl⟩, by simp [Hid]⟩
          case round =>
            obtain ⟨i, hile, rfl, ⟨m3, rfl⟩, hiinv⟩ := hrel
            by_cases hilt : i < (wss[(taken[k]).toNat]).length
            · obtain ⟨b3, off3, u3, rfl, hb3, hcell3, hu3⟩ := Hat3.out.lt_ hilt
              obtain ⟨A4, c4, rfl, hm4, hat4⟩ := hu3.open_
              have Hat4 := Lib.hid hat4; clear hat4
              go_wp2
              go_loopw [87, 11] (fun sv ok wr => ∃ q : Nat, q ≤ (wss[(taken[k]).toNat][i]).length ∧ sv = .int .i64 q ∧ (∃ m, wr = w1.drewN m) ∧ ok = .bool (wantOk taken ((wss[(taken[k]).toNat][i]).take q))) (fun sv _ _ => (wss[(taken[k]).toNat][i]).length - (intOf sv).toNat)
              case atStart => exact ⟨0, Nat.zero_le _, rfl, ⟨m3, rfl⟩, rfl⟩
              case round =>
                obtain ⟨q, hqle, rfl, ⟨m4, rfl⟩, rfl⟩ := hrel
                by_cases hqlt : q < (wss[(taken[k]).toNat][i]).length
                · obtain ⟨b4, off4, u4, rfl, hb4, hcell4, hu4⟩ := Hat4.out.lt_ hqlt
                  obtain rfl := hu4
                  have hs := any_take_succ (hasB taken) (wss[(taken[k]).toNat][i]) q hqlt
                  cases hany : wantOk taken ((wss[(taken[k]).toNat][i]).take q) with
                  | true =>
                    have Hany := Lib.hid (show Value.bool true = .bool (wantOk taken ((wss[(taken[k]).toNat][i]).take (q + 1))) by rw [wantOk, hs, show ((wss[(taken[k]).toNat][i]).take q).any (hasB taken) = true from hany]; rfl)
                    clear hany hs
                    go_wp2
                    go_roundw
                    case rel => exact ⟨q + 1, by omega, by go_num, ⟨_, rfl⟩, Hany.out⟩
                    case measure => simp [intOf]; omega
                  | false =>
                    have Hany := Lib.hid (show Value.bool (hasB taken (wss[(taken[k]).toNat][i][q])) = .bool (wantOk taken ((wss[(taken[k]).toNat][i]).take (q + 1))) by rw [wantOk, hs, show ((wss[(taken[k]).toNat][i]).take q).any (hasB taken) = false from hany]; rfl)
                    clear hany hs
                    go_wp2_with (go_at_call 45; refine (has_any _ _ taken _ (B := w.heap.size) ?_).mono ?_; (exact RInts.stable.below Ht1.out (below_drewN (Below.refl _ _) _)); rintro e w2 ⟨rfl, rfl⟩)
                    go_roundw
                    case rel => exact ⟨q + 1, by omega, by go_num, ⟨_, rfl⟩, Hany.out⟩
                    case measure => simp [intOf]; omega
                · obtain rfl : q = (wss[(taken[k]).toNat][i]).length := by omega
                  rw [List.take_length]
                  cases hany : wantOk taken (wss[(taken[k]).toNat][i]) with
                  | true =>
                    have Hany := Lib.hid hany; clear hany
                    go_wp2
                    go_roundw
                    case rel => exact ⟨i + 1, by omega, by go_num, ⟨_, rfl⟩, by rw [Hid, all_take_succ _ _ _ hilt, hiinv.out, Hany.out]; rfl⟩
                    case measure => simp [intOf]; omega
                  | false =>
                    have Hd := Lib.hid (show false = rightB items wss r taken by
                      have : (taken.all fun n => (wantsAt wss n).all (wantOk taken)) = false := all_at (h := hklt) (by rw [wantsAt_eq hlt3]; exact all_at (h := hilt) hany)
                      simp [rightB, this])
                    clear hany
                    go_wp2
                    go_ret
                    exact ⟨ret_bool Hd.out, below_drewN Hbw.out _⟩
            · obtain rfl : i = (wss[(taken[k]).toNat]).length := by omega
              rw [List.take_length] at hiinv
              go_wp2
              go_roundw
              case rel => exact ⟨k + 1, by omega, by go_num, ⟨_, rfl⟩, by
                rw [Hid, all_take_succ _ _ _ hklt, hkinv.out, Hnc.out, wantsAt_eq hlt3, hiinv.out, show isItemB items.length taken[k] = true by simp [isItemB]; omega]; rfl⟩
              case measure => simp [intOf]; omega
    · obtain rfl : k = taken.length := by omega
      have Hd := Lib.hid (show true = rightB items wss r taken by
        have h := hkinv.out
        rw [List.take_length] at h
        simp only [rightB, Hmay.out, Hroot.out]
        simp only [List.all_eq_true, Bool.and_eq_true] at h
        have h1 : taken.all (isItemB items.length) = true := List.all_eq_true.2 fun x hx => (h x hx).1.1
        have h2 : (taken.all fun n => !taken.any (clash items n)) = true := List.all_eq_true.2 fun x hx => (h x hx).1.2
        have h3 : (taken.all fun n => (wantsAt wss n).all (wantOk taken)) = true := List.all_eq_true.2 fun x hx => List.all_eq_true.2 (h x hx).2
        rw [h1, h2, h3]; rfl)
      go_wp2
      go_ret
      exact ⟨ret_bool Hd.out, below_drewN Hbw.out _⟩
end Go.Proofs.Ytcebafeaikipmaa

namespace Go.Proofs.Ytcebafeaikipmaa
open Go.RowKit

section
variable {κ : Type} [DecidableEq κ] {P : Program} {kt vt T : TypeId} {enc : κ → Value} {ops : Array Oper} {rest : List Oper} {o : Oper} {a : Act} {Q : Exit → Act → World → Prop} {w : World} {r : Nat} {f : κ → Option Value}
theorem wpList_lookup_is (hgd : o.guard = none) (m x : Operand) (c : Bool) (ho : o.op = .lookup T m x c) (K : KeyLaw P kt enc) (hT : P.underlying T = some (.map kt vt)) {z : Value} (hz : ∀ w, (zeroValue vt).run P w = .ok z w)
    (hm : a.eval m = .map (some r)) (k : κ) (hx : a.eval x = enc k) (h : MapIs enc w r f)
    (hk : wpList P ops Q rest (a.put o.dst (if c then .tuple #[(f k).getD z, .bool (f k).isSome] else (f k).getD z)) w) : wpList P ops Q (o :: rest) a w := by
  refine wpList_plain hgd fun _ hK => ?_
  unfold Oper.wp execOp
  simp only [ho, hm, hx]
  simp [run_lookup_is K hT hz h, Oper.upon]
  exact hK _ _ hk
theorem wpList_mapUpdate_is (hgd : o.guard = none) (m x y : Operand) (ho : o.op = .mapUpdate T m x y) (K : KeyLaw P kt enc) (hT : P.underlying T = some (.map kt vt))
    (hm : a.eval m = .map (some r)) (k : κ) (hx : a.eval x = enc k) (v : Value) (hy : a.eval y = v) (h : MapIs enc w r f)
    (hk : ∀ w', MapIs enc w' r (updF f k v) → w.grownBy w' (some r) → w'.heap.size = w.heap.size → wpList P ops Q rest (a.put o.dst undef) w') : wpList P ops Q (o :: rest) a w := by
  obtain ⟨w', h1, h2, h3, h4⟩ := run_mapUpdate_is (P := P) K hT h k v
  refine wpList_plain hgd fun _ hK => ?_
  unfold Oper.wp execOp
  simp only [ho, hm, hx, hy]
  simp [h1, Oper.upon]
  exact hK _ _ (hk w' h2 h3 h4)
theorem wpList_mapEntry_is (hgd : o.guard = none) (m x : Operand) (ho : o.op = .mapEntry T m x) (K : KeyLaw P kt enc) (hT : P.underlying T = some (.map kt vt)) {z : Value} (hz : ∀ w, (zeroValue vt).run P w = .ok z w)
    (hm : a.eval m = .map (some r)) (k : κ) (hx : a.eval x = enc k) (h : MapIs enc w r f)
    (hk : ∀ w' (s : Nat), MapStamp enc w' r (updF f k ((f k).getD z)) k s → w.grownBy w' (some r) → w'.heap.size = w.heap.size → wpList P ops Q rest (a.put o.dst (.tuple #[(f k).getD z, .int .i64 s])) w') : wpList P ops Q (o :: rest) a w := by
  obtain ⟨w', s, h1, h2, h3, h4⟩ := run_mapEntry_is (P := P) K hT hz h k
  refine wpList_plain hgd fun _ hK => ?_
  unfold Oper.wp execOp
  simp only [ho, hm, hx]
  simp [h1, Oper.upon, goInt]
  exact hK _ _ (hk w' s h2 h3 h4)
theorem wpList_entryStore_is (hgd : o.guard = none) (m x y : Operand) (ho : o.op = .entryStore T m x y) (hm : a.eval m = .map (some r)) {k : κ} {s : Nat} (hx : a.eval x = .int .i64 s) (v : Value) (hy : a.eval y = v) (h : MapStamp enc w r f k s)
    (hk : ∀ w', MapIs enc w' r (updF f k v) → w.grownBy w' (some r) → w'.heap.size = w.heap.size → wpList P ops Q rest (a.put o.dst undef) w') : wpList P ops Q (o :: rest) a w := by
  obtain ⟨w', h1, h2, h3, h4⟩ := run_entryStore_is (P := P) (T := T) h v
  refine wpList_plain hgd fun _ hK => ?_
  unfold Oper.wp execOp
  simp only [ho, hm, hx, hy]
  rw [goInt] at h1
  simp [h1, Oper.upon]
  exact hK _ _ (hk w' h2 h3 h4)
end

def encKey (k : KeyD) : Value := .agg #[.string k.1, .string k.2.1, .string k.2.2.1, .string k.2.2.2]
theorem checkKey_string {P : Program} {t : TypeId} (h : P.underlying t = some .string) (b : Bool) (n : Nat) (s : ByteArray) (w : World) : (Instr.checkKey b (n + 1) t (.string s)).run P w = .ok () w := by
  simp [Instr.checkKey, run_underlying h]
theorem eqStr {P : Program} {t : TypeId} (h : P.underlying t = some .string) (n : Nat) (a b : ByteArray) (w : World) : (Op.equalIn (n + 1) t (.string a) (.string b)).run P w = .ok (decide (a = b)) w := by
  rw [run_equalIn_string w n t a b h, ba_beq]
theorem keyLaw : KeyLaw Try.prog 33 encKey where
  check b k w := by
    unfold encKey
    rw [show (10000 : Nat) = 9999 + 1 from rfl, Instr.checkKey]
    simp only [Sem.run_bind, run_underlying Try.underlying33, Result.andThen_ok]
    rw [show (9999 : Nat) = 9998 + 1 from rfl]
    simp [checkKey_string Try.underlying9, part, go_sem]
  eq a b w := by
    rw [← key_beq]
    unfold encKey Op.equal Op.maxDepth
    go_simp
    (repeat' split) <;> simp_all
  bits a := by
    have h : ∀ x : ByteArray, (x == x) = true := fun x => by rw [beq_toListBytes]; simp
    simp [encKey, Instr.sameBits, h]
  kind := ⟨_, Try.underlying33, fun _ _ => .inl rfl⟩
end Go.Proofs.Ytcebafeaikipmaa

namespace Go.Proofs.Ytcebafeaikipmaa
open Go.RowKit

/-- What the program's map holds after some numbers. -/
def MapOf (items : List ItemD) (l : List Int) (f : KeyD → Option Value) : Prop :=
  (∀ n ∈ l, f (keyAt items n) = some (.int .i64 n)) ∧ ∀ k v, f k = some v → ∃ n ∈ l, keyAt items n = k ∧ v = .int .i64 n
theorem MapOf.nil_ (items : List ItemD) : MapOf items [] fun _ => none := ⟨fun _ h => absurd h (by simp), fun _ _ h => by simp at h⟩
theorem MapOf.push {items : List ItemD} {l : List Int} {f : KeyD → Option Value} (h : MapOf items l f) {n : Int} (hn : f (keyAt items n) = none ∨ f (keyAt items n) = some (.int .i64 n)) :
    MapOf items (l ++ [n]) (updF f (keyAt items n) (.int .i64 n)) := by
  refine ⟨fun m hm => ?_, fun k v hv => ?_⟩
  · simp only [updF]
    by_cases he : keyAt items m = keyAt items n
    · rw [if_pos he]
      rcases List.mem_append.1 hm with h1 | h1
      · have := h.1 m h1
        rw [he] at this
        rcases hn with h2 | h2
        · rw [h2] at this; simp at this
        · rw [h2] at this; exact this
      · simp at h1; rw [h1]
    · rw [if_neg he]
      rcases List.mem_append.1 hm with h1 | h1
      · exact h.1 m h1
      · simp at h1; exact absurd (by rw [h1]) he
  · simp only [updF] at hv
    split at hv
    · rename_i hk
      simp at hv
      exact ⟨n, by simp, hk.symm, hv.symm⟩
    · obtain ⟨m, h1, h2, h3⟩ := h.2 k v hv
      exact ⟨m, by simp [h1], h2, h3⟩
theorem MapOf.noClash {items : List ItemD} {l : List Int} {f : KeyD → Option Value} (h : MapOf items l f) : (l.all fun n => !l.any (clash items n)) = true := by
  refine List.all_eq_true.2 fun n hn => ?_
  simp only [Bool.not_eq_true', List.any_eq_false]
  intro k hk hc
  simp only [clash, Bool.and_eq_true, decide_eq_true_eq] at hc
  have h1 := h.1 n hn
  have h2 := h.1 k hk
  rw [hc.2.2, h1] at h2
  simp at h2
  exact hc.2.1 h2.symm
theorem zeroInt (w : World) : (zeroValue 3).run Try.prog w = .ok (.int .i64 0) w := by kernel_rfl

end Go.Proofs.Ytcebafeaikipmaa

namespace Go.Proofs.Ytcebafeaikipmaa
open Go.RowKit

def tT (t : List Bool) (k : Nat) : Bool := t.getD k false
/-- Items that are met from r on by truths t. -/
inductive Rch (wss : List (List (List Int))) (t : List Bool) (r : Nat) : Nat → Prop
  | root : tT t r = true → Rch wss t r r
  | step {k n : Nat} {w : List Int} (hk : Rch wss t r k) (h : k < wss.length) (hw : w ∈ wss[k]) (hn : (n : Int) ∈ w) (ht : tT t n = true) : Rch wss t r n
def mB (met : List Bool) (x : Nat) : Bool := met.getD x false
/-- From met to met': more is met, all that is new is met from r, and what is new has met all that it wants. -/
structure Stp (wss : List (List (List Int))) (t : List Bool) (r : Nat) (a b : List Bool) : Prop where
  len : b.length = a.length
  more : ∀ x, mB a x = true → mB b x = true
  new : ∀ x, mB b x = true → mB a x = false → Rch wss t r x
  shut : ∀ x, mB b x = true → mB a x = false → ∀ (h : x < wss.length), ∀ w ∈ wss[x], ∀ n : Nat, (n : Int) ∈ w → tT t n = true → n < a.length → mB b n = true
theorem Stp.refl (wss : List (List (List Int))) (t : List Bool) (r : Nat) (a : List Bool) : Stp wss t r a a :=
  ⟨rfl, fun _ h => h, fun x h h' => by simp [h] at h', fun x h h' => by simp [h] at h'⟩
theorem Stp.trans {wss : List (List (List Int))} {t : List Bool} {r : Nat} {a b c : List Bool} (h : Stp wss t r a b) (k : Stp wss t r b c) : Stp wss t r a c := by
  refine ⟨k.len.trans h.len, fun x hx => k.more x (h.more x hx), fun x hx ha => ?_, fun x hx ha hlt w hw n hn ht hl => ?_⟩
  · cases hb : mB b x with
    | true => exact h.new x hb ha
    | false => exact k.new x hx hb
  · cases hb : mB b x with
    | true => exact k.more n (h.shut x hb ha hlt w hw n hn ht hl)
    | false => exact k.shut x hx hb hlt w hw n hn ht (by rw [h.len]; exact hl)
theorem mB_set {a : List Bool} {n x : Nat} (hn : n < a.length) : mB (a.set n true) x = (decide (x = n) || mB a x) := by
  unfold mB List.getD
  rw [List.getElem?_set]
  by_cases h : n = x
  · subst h; simp [hn]
  · simp [h, show ¬ x = n from fun e => h e.symm]
def unmet (a : List Bool) : Nat := a.count false
theorem unmet_le_of_more : ∀ {a b : List Bool}, b.length = a.length → (∀ x, mB a x = true → mB b x = true) → unmet b ≤ unmet a
  | [], b, hl, _ => by have : b = [] := List.eq_nil_of_length_eq_zero hl; subst this; exact Nat.le_refl _
  | x :: a, [], hl, _ => by simp at hl
  | x :: a, y :: b, hl, h => by
    have ih := unmet_le_of_more (a := a) (b := b) (by simpa using hl) (fun i hi => by simpa [mB] using h (i + 1) (by simpa [mB] using hi))
    have h0 := h 0
    simp only [mB, List.getD_cons_zero] at h0
    unfold unmet at *
    rw [List.count_cons, List.count_cons]
    cases x <;> cases y <;> simp_all <;> omega
theorem unmet_set {a : List Bool} {n : Nat} (hn : n < a.length) (hf : mB a n = false) : unmet (a.set n true) < unmet a := by
  induction a generalizing n with
  | nil => simp at hn
  | cons x a ih =>
    cases n with
    | zero =>
      simp [mB] at hf
      subst hf
      simp [unmet]
    | succ n =>
      have := ih (n := n) (by simpa using hn) (by simpa [mB] using hf)
      unfold unmet at *
      simp only [List.set_cons_succ, List.count_cons]
      omega
/-- The step of one node: it is met, and then all that it wants. -/
theorem Stp.node {wss : List (List (List Int))} {t : List Bool} {r n : Nat} {a b : List Bool} (hn : n < a.length) (hr : Rch wss t r n) (h : Stp wss t r (a.set n true) b)
    (hd : ∀ (hlt : n < wss.length), ∀ w ∈ wss[n], ∀ k : Nat, (k : Int) ∈ w → tT t k = true → k < a.length → mB b k = true) : Stp wss t r a b := by
  refine ⟨by simpa using h.len, fun x hx => h.more x (by rw [mB_set hn, hx]; simp), fun x hx ha => ?_, fun x hx ha hlt w hw k hk ht hl => ?_⟩
  · by_cases hxn : x = n
    · subst hxn; exact hr
    · exact h.new x hx (by rw [mB_set hn, ha]; simp [hxn])
  · by_cases hxn : x = n
    · subst hxn; exact hd hlt w hw k hk ht hl
    · exact h.shut x hx (by rw [mB_set hn, ha]; simp [hxn]) hlt w hw k hk ht (by simpa using hl)
/-- What is met in the end. -/
def IsMet (n0 : Nat) (wss : List (List (List Int))) (t : List Bool) (r : Nat) (met : List Bool) : Prop := met.length = n0 ∧ ∀ x, x < n0 → (mB met x = true ↔ Rch wss t r x)
theorem IsMet.unique {n0 : Nat} {wss : List (List (List Int))} {t : List Bool} {r : Nat} {a b : List Bool} (h : IsMet n0 wss t r a) (k : IsMet n0 wss t r b) : a = b := by
  apply List.ext_getElem (h.1.trans k.1.symm)
  intro i hi hj
  have h1 := h.2 i (h.1 ▸ hi)
  have h2 := k.2 i (h.1 ▸ hi)
  have e : mB a i = mB b i := by rw [Bool.eq_iff_iff, h1, h2]
  simpa [mB, List.getD, hi, hj] using e
def validW (n0 : Nat) (wss : List (List (List Int))) : Prop := ∀ k (h : k < wss.length), ∀ w ∈ wss[k], ∀ x ∈ w, 0 ≤ x ∧ x < n0
theorem validW_of {n0 : Nat} {wss : List (List (List Int))} (h : badRR n0 wss = false) : validW n0 wss := by
  intro k hk w hw x hx
  have h1 := List.any_eq_false.1 h _ (List.getElem_mem hk)
  have h1' : badR n0 wss[k] = false := by simpa using h1
  have h2 := List.any_eq_false.1 h1' _ hw
  have h2' : badW n0 w = false := by simpa using h2
  have h3 := List.any_eq_false.1 h2' _ hx
  have h3' : isItemB n0 x = true := by simpa using h3
  exact isItemB_iff.1 h3'
theorem Rch.lt {n0 : Nat} {wss : List (List (List Int))} {t : List Bool} {r x : Nat} (hv : validW n0 wss) (hr : r < n0) (h : Rch wss t r x) : x < n0 := by
  induction h with
  | root _ => exact hr
  | step _ hk hw hn _ _ => have := hv _ hk _ hw _ hn; omega
theorem Rch.true_ {wss : List (List (List Int))} {t : List Bool} {r x : Nat} (h : Rch wss t r x) : tT t x = true := by cases h <;> assumption
theorem isMet_of_stp {n0 : Nat} {wss : List (List (List Int))} {t : List Bool} {r : Nat} {b : List Bool} (hv : validW n0 wss) (_hr : r < n0) (h : Stp wss t r (List.replicate n0 false) b) (hroot : tT t r = true → mB b r = true) : IsMet n0 wss t r b := by
  have h0 : ∀ x, mB (List.replicate n0 false) x = false := by
    intro x; unfold mB List.getD; rw [List.getElem?_replicate]; split <;> rfl
  have key : ∀ y, Rch wss t r y → mB b y = true := by
    intro y hy
    induction hy with
    | root ht => exact hroot ht
    | step hk hlt hw hn ht ih =>
      have := hv _ hlt _ hw _ hn
      exact h.shut _ ih (h0 _) hlt _ hw _ hn ht (by simp; omega)
  exact ⟨by simpa using h.len, fun x hx => ⟨fun hb => h.new x hb (h0 x), key x⟩⟩
def truesFrom : List Bool → Nat → List Int
  | [], _ => []
  | b :: l, i => if b then (i : Int) :: truesFrom l (i + 1) else truesFrom l (i + 1)
def trues (l : List Bool) : List Int := truesFrom l 0
theorem truesFrom_append (a : List Bool) (b : Bool) (i : Nat) : truesFrom (a ++ [b]) i = truesFrom a i ++ (if b then [((i + a.length : Nat) : Int)] else []) := by
  induction a generalizing i with
  | nil => cases b <;> simp [truesFrom]
  | cons x a ih =>
    simp only [List.cons_append, truesFrom, ih]
    cases x <;> simp [Nat.add_assoc, Nat.add_comm 1]
theorem trues_succ {l : List Bool} {k : Nat} (h : k < l.length) : trues (l.take (k + 1)) = trues (l.take k) ++ (if l[k] then [(k : Int)] else []) := by
  unfold trues
  rw [List.take_succ_eq_append_getElem h, truesFrom_append]
  simp [Nat.min_eq_left (Nat.le_of_lt h)]
theorem trues_length_le (l : List Bool) : (trues l).length ≤ l.length := by
  suffices ∀ i, (truesFrom l i).length ≤ l.length from this 0
  induction l with
  | nil => intro i; simp [truesFrom]
  | cons b l ih => intro i; have := ih (i + 1); cases b <;> simp [truesFrom] <;> omega
theorem mem_trues {l : List Bool} {x : Int} : x ∈ trues l ↔ 0 ≤ x ∧ mB l x.toNat = true := by
  suffices h : ∀ i : Nat, x ∈ truesFrom l i ↔ (i : Int) ≤ x ∧ mB l (x.toNat - i) = true by simpa [trues] using h 0
  induction l with
  | nil => intro i; simp [truesFrom, mB]
  | cons b l ih =>
    intro i
    have hi := ih (i + 1)
    by_cases hx : x = i
    · subst hx
      have hn : ¬ ((i : Int) ∈ truesFrom l (i + 1)) := by rw [hi]; omega
      cases b <;> simp [truesFrom, mB, hn]
    · have e : ∀ (h : (i : Int) < x), mB (b :: l) (x.toNat - i) = mB l (x.toNat - (i + 1)) := by
        intro h
        rw [show x.toNat - i = (x.toNat - (i + 1)) + 1 by omega]
        simp [mB]
      have : x ∈ truesFrom (b :: l) i ↔ x ∈ truesFrom l (i + 1) := by cases b <;> simp [truesFrom, hx]
      rw [this, hi]
      constructor
      · rintro ⟨h1, h2⟩; exact ⟨by omega, by rw [e (by omega)]; exact h2⟩
      · rintro ⟨h1, h2⟩; exact ⟨by omega, by rw [← e (by omega)]; exact h2⟩
end Go.Proofs.Ytcebafeaikipmaa

namespace Go.Proofs.Ytcebafeaikipmaa
open Go.RowKit

def MetRow (W : World) (base gm n0 : Nat) (met : List Bool) : Prop := W.ownsRow base 4 1 (.slice (some ⟨gm, 0, none⟩) n0 n0) n0 (met.map Value.bool)
theorem MetRow.cell {W : World} {base gm n0 : Nat} {met : List Bool} (h : MetRow W base gm n0 met) (hl : met.length = n0) {k : Nat} (hk : k < n0) : W.cell? ⟨gm, k, none⟩ = some (.bool (mB met k)) := by
  have := h.cellAt (g := gm) (cap := n0) k (by omega)
  rw [this, List.getElem?_map]
  subst hl
  simp [mB, List.getD, hk]
theorem MetRow.frozen {W : World} {base gm n0 : Nat} {met : List Bool} (h : MetRow W base gm n0 met) (k : Nat) : W.frozen? ⟨gm, k, none⟩ = false := h.frozenAt (g := gm) (cap := n0) k
theorem MetRow.set_ {W : World} {base gm n0 : Nat} {met : List Bool} (h : MetRow W base gm n0 met) (k : Nat) (b : Bool) : MetRow (W.setCell ⟨gm, k, none⟩ (.bool b)) base gm n0 (met.set k b) := by
  have := (h.stored (g := gm) (cap := n0) k (.bool b)).1
  unfold MetRow
  rwa [List.map_set]
/-- What one call of the closure does. -/
def MeetPost (wss : List (List (List Int))) (t : List Bool) (r base gm n0 n : Nat) (met : List Bool) (W : World) (e : Ending) (W' : World) : Prop :=
  e = .returned (.tuple #[]) ∧ ∃ met', Stp wss t r met met' ∧ (tT t n = true → mB met' n = true) ∧ MetRow W' base gm n0 met' ∧ Ag (fun b => b ≠ gm) W W' ∧ Below gm W W' ∧ W'.heap.size = W.heap.size

def MeetRel (wss : List (List (List Int))) (t : List Bool) (r base gm n0 : Nat) (met1 : List Bool) (W W1 : World) (done : Nat → Prop) (wr : World) : Prop :=
  ∃ met2, Stp wss t r met1 met2 ∧ MetRow wr base gm n0 met2 ∧ Ag (fun b => b ≠ gm) W1 wr ∧ Below gm W wr ∧ wr.heap.size = W.heap.size ∧ ∀ k, done k → tT t k = true → k < n0 → mB met2 k = true
theorem MeetRel.imp {wss : List (List (List Int))} {t : List Bool} {r base gm n0 : Nat} {met1 : List Bool} {W W1 wr : World} {d d' : Nat → Prop} (h : MeetRel wss t r base gm n0 met1 W W1 d wr) (hd : ∀ k, d' k → d k) : MeetRel wss t r base gm n0 met1 W W1 d' wr := by
  obtain ⟨met2, h1, h2, h3, h4, h5, h6⟩ := h
  exact ⟨met2, h1, h2, h3, h4, h5, fun k hk => h6 k (hd k hk)⟩

end Go.Proofs.Ytcebafeaikipmaa

namespace Go.Proofs.Ytcebafeaikipmaa
open Go.RowKit

theorem eInt : Elem1 Try.prog 37 3 8 := elem1_mk (z := .int .i64 0) Try.underlying37 (by kernel_rfl) (by omega) rfl
/-- What Taken answers. -/
def TakenIs (n0 : Nat) (wss : List (List (List Int))) (r : Int) (t : List Bool) (l : List Int) : Prop :=
  (mayN n0 r wss = 0 → ∃ met, IsMet n0 wss t r.toNat met ∧ l = trues met) ∧ (mayN n0 r wss ≠ 0 → l = [])
theorem TakenIs.unique {n0 : Nat} {wss : List (List (List Int))} {r : Int} {t : List Bool} {a b : List Int} (h : TakenIs n0 wss r t a) (k : TakenIs n0 wss r t b) : a = b := by
  by_cases h0 : mayN n0 r wss = 0
  · obtain ⟨m1, h1, rfl⟩ := h.1 h0
    obtain ⟨m2, h2, rfl⟩ := k.1 h0
    rw [h1.unique h2]
  · rw [h.2 h0, k.2 h0]
theorem errOf_ne {n0 : Nat} {r : Int} {wss : List (List (List Int))} (h : mayN n0 r wss ≠ 0) : (errOf (mayN n0 r wss) != (0 : Int)) = true := by
  have : mayN n0 r wss ≤ 2 := by unfold mayN; (repeat' split) <;> omega
  simp only [errOf, bne_iff_ne]; split
  · omega
  · split <;> omega
def TakenPost (n0 : Nat) (wss : List (List (List Int))) (r : Int) (t : List Bool) (w : World) (e : Ending) (w' : World) : Prop :=
  ∃ v l, e = .returned v ∧ TakenIs n0 wss r t l ∧ RInts w' (Lt w'.heap.size) v l ∧ l.length ≤ n0 ∧ Below w.heap.size w w'
theorem map_append_int (l : List Int) (k : Int) : l.map (Value.int .i64) ++ [.int .i64 k] = (l ++ [k]).map (Value.int .i64) := by simp

end Go.Proofs.Ytcebafeaikipmaa

namespace Go.Proofs.Ytcebafeaikipmaa
open Go.RowKit

def wsN (wss : List (List (List Int))) (k : Nat) : List (List Int) := (wss[k]?).getD []
def wantK (met : List Bool) (wss : List (List (List Int))) (n k : Nat) : Bool := mB met k && (wsN wss k).any fun w => hasB w n
def wantU (met : List Bool) (wss : List (List (List Int))) (n r m : Nat) : Bool := ((n : Int) == (r : Int)) || (List.range m).any (wantK met wss n)
theorem wantU_succ (met : List Bool) (wss : List (List (List Int))) (n r m : Nat) : wantU met wss n r (m + 1) = (wantU met wss n r m || wantK met wss n m) := by
  simp [wantU, List.range_succ, Bool.or_assoc]
/-- What holds of met: all of it is met from the root. -/
def MetOk (n0 : Nat) (wss : List (List (List Int))) (t : List Bool) (r : Nat) (met : List Bool) : Prop := met.length = n0 ∧ ∀ x, mB met x = true → Rch wss t r x
/-- Nothing more is wanted, up to m. -/
def ShutUp (m n0 : Nat) (wss : List (List (List Int))) (t : List Bool) (r : Nat) (met : List Bool) : Prop := ∀ n, n < m → mB met n = false → tT t n = true → wantU met wss n r n0 = false
theorem rch_of_want {n0 : Nat} {wss : List (List (List Int))} {t : List Bool} {r n : Nat} {met : List Bool} (h : MetOk n0 wss t r met) (hlen : wss.length = n0) (ht : tT t n = true) (hw : wantU met wss n r n0 = true) : Rch wss t r n := by
  simp only [wantU, Bool.or_eq_true, beq_iff_eq, List.any_eq_true, List.mem_range, wantK, Bool.and_eq_true] at hw
  rcases hw with hw | ⟨k, hk, hm, w, hww, hn⟩
  · have : n = r := by omega
    subst this
    exact .root ht
  · have hkl : k < wss.length := by omega
    have hws : wsN wss k = wss[k] := by simp [wsN, hkl]
    rw [hws] at hww
    exact .step (h.2 k hm) hkl hww (hasB_iff.1 hn) ht
theorem MetOk.set_ {n0 : Nat} {wss : List (List (List Int))} {t : List Bool} {r n : Nat} {met : List Bool} (h : MetOk n0 wss t r met) (hn : n < n0) (hr : Rch wss t r n) : MetOk n0 wss t r (met.set n true) := by
  refine ⟨by simpa using h.1, fun x hx => ?_⟩
  rw [mB_set (by rw [h.1]; exact hn)] at hx
  by_cases hxn : x = n
  · subst hxn; exact hr
  · simp [hxn] at hx; exact h.2 x hx
theorem isMet_of_shut {n0 : Nat} {wss : List (List (List Int))} {t : List Bool} {r : Nat} {met : List Bool} (h : MetOk n0 wss t r met) (hv : validW n0 wss) (hlen : wss.length = n0) (hr : r < n0) (hs : ShutUp n0 n0 wss t r met) : IsMet n0 wss t r met := by
  refine ⟨h.1, fun x _ => ⟨h.2 x, fun hx => ?_⟩⟩
  have key : ∀ y, Rch wss t r y → mB met y = true := by
    intro y hy
    induction hy with
    | root ht =>
      cases hm : mB met r with
      | true => rfl
      | false =>
        have := hs r hr hm ht
        simp [wantU] at this
    | step hk hlt hw hn ht ih =>
      rename_i k n w
      cases hm : mB met n with
      | true => rfl
      | false =>
        have hn0 := (hv k hlt w hw _ hn).2
        have := hs n (by omega) hm ht
        simp only [wantU, Bool.or_eq_false_iff, List.any_eq_false, List.mem_range] at this
        have h2 := this.2 k (by omega)
        exact absurd (by simp only [wantK, ih, Bool.true_and, List.any_eq_true]; exact ⟨w, by simp [wsN, hlt]; exact hw, hasB_iff.2 hn⟩) h2
  exact key x hx

end Go.Proofs.Ytcebafeaikipmaa

namespace Go.Proofs.Ytcebafeaikipmaa
open Go.RowKit

theorem eRow : Elem1 Try.prog 36 37 24 := elem1_mk (z := .slice none 0 0) Try.underlying36 (by kernel_rfl) (by omega) rfl
abbrev inS (w : World) (g : Nat) (own : Option Nat) : Nat → Prop := fun b => b < w.heap.size ∧ g < b ∧ some b ≠ own
/-- The maker's block g: cs are the clauses that it was asked for, of which it keeps the first 16384; own: the block of its row of clauses. -/
def MakerAt (w : World) (g n0 : Nat) (own : Option Nat) (cs : List (List Int)) : Prop :=
  ∃ v xs, w.heap[g]? = some (.cells #[.int .i64 (n0 : Int), v, .bool (decide (16384 < cs.length))] 77 (0, 0)) ∧ w.ownsRow (g + 1) 37 1 v (min cs.length 16384) xs ∧ v.ownBlock = own ∧
    ∀ i (h : i < cs.length) u, xs[i]? = some u → RInts w (inS w g own) u cs[i]
theorem MakerAt.lt {w : World} {g n0 : Nat} {own : Option Nat} {cs : List (List Int)} (h : MakerAt w g n0 own cs) : g < w.heap.size ∧ ∀ b, own = some b → g < b ∧ b < w.heap.size := by
  obtain ⟨v, xs, h1, h2, rfl, _⟩ := h
  exact ⟨(Array.getElem?_eq_some_iff.1 h1).1, fun b hb => by have := h2.lt b hb; omega⟩
theorem MakerAt.keep {w w' : World} {g n0 : Nat} {own : Option Nat} {cs : List (List Int)} (h : MakerAt w g n0 own cs) (hb : Below w.heap.size w w') : MakerAt w' g n0 own cs := by
  have hlt := h.lt
  obtain ⟨v, xs, h1, h2, h3, h4⟩ := h
  have hg : w.grownBy w' none := ⟨hb.os, hb.tape, hb.output, hb.size, fun k hk _ => hb.block k hk⟩
  refine ⟨v, xs, (hb.block g hlt.1).trans h1, h2.kept hg (by cases hv : v.ownBlock with | none => exact .inl rfl | some b => exact .inr (by simp)), h3, fun i hi u hu => ?_⟩
  exact RInts.stable _ _ _ _ _ _ (h4 i hi u hu) (fun b hb' => hb.block b hb'.1) fun b hb' => ⟨Nat.lt_of_lt_of_le hb'.1 hb.size, hb'.2⟩
theorem grown_none_of_below {w w' : World} (hb : Below w.heap.size w w') (row : Option Nat) : w.grownBy w' row := ⟨hb.os, hb.tape, hb.output, hb.size, fun k hk _ => hb.block k hk⟩

def ClausePost (g n0 : Nat) (own : Option Nat) (cs : List (List Int)) (c : List Int) (w : World) (e : Ending) (w' : World) : Prop :=
  e = .returned (.tuple #[]) ∧ ∃ own', MakerAt w' g n0 own' (cs ++ [c]) ∧ (own' = own ∨ ∃ b, own' = some b ∧ w.heap.size ≤ b) ∧ Ag (inS w g own) w w' ∧ Below g w w'

set_option maxRecDepth 100000 in
set_option maxHeartbeats 1000000 in
theorem clause_any (g n0 : Nat) (own : Option Nat) (cs : List (List Int)) (c : List Int) (l : Value) (w : World) (hm : MakerAt w g n0 own cs) (hl : RInts w (inS w g own) l c) :
    Calls Try.prog 40 #[.pointer (some ⟨g, 0, none⟩), l] w (ClausePost g n0 own cs c w) := by
  have hlt := hm.lt
  have Hm := Lib.hid hm
  have Hl := Lib.hid hl
  obtain ⟨v, xs, h1, h2, h3, h4⟩ := hm
  have hgw := hlt.1
  have hc0 : w.cell? ⟨g, 0, none⟩ = some (.int .i64 (n0 : Int)) := by rw [cell_of_row _ _ 0 _ _ _ h1]; rfl
  have hc1 : w.cell? ⟨g, 1, none⟩ = some v := by rw [cell_of_row _ _ 1 _ _ _ h1]; rfl
  have hc2 : w.cell? ⟨g, 2, none⟩ = some (.bool (decide (16384 < cs.length))) := by rw [cell_of_row _ _ 2 _ _ _ h1]; rfl
  have hf2 : w.frozen? ⟨g, 2, none⟩ = false := frozen_of_row w g 2 _ _ h1
  obtain ⟨A, k, rfl⟩ := own_shape h2
  have H1 := Lib.hid h1; have H2 := Lib.hid h2; have H3 := Lib.hid h3; have H4 := Lib.hid h4; have Hlt := Lib.hid hlt
  obtain ⟨A9, k9, rfl, _, _⟩ := hl
  clear h1 h2 h3 h4 hlt
  by_cases hbig : 16384 ≤ cs.length
  · have hmin : min cs.length 16384 = 16384 := by omega
    rw [hmin] at hc1
    have Hmin := Lib.hid hmin; clear hmin
    go_enter Try.func40, Try.ntmps40
    go_wp2
    refine bodyPost_ret (results_none rfl _ _ _) rfl ?_
    refine ⟨rfl, own, ?_, .inl rfl, (ag_setCell w ⟨g, 2, none⟩ (.bool true)).sub fun b hb => Nat.ne_of_gt hb.2.1, (Below.refl g w).setCell (p := ⟨g, 2, none⟩) (Nat.le_refl g) _⟩
    have hgr : w.grownBy (w.setCell ⟨g, 2, none⟩ (.bool true)) (some g) := ⟨rfl, rfl, rfl, by simp, fun k _ hk => Below.heap_setCell _ _ _ _ (fun e => hk (by simp [e]))⟩
    refine ⟨.slice A (min cs.length 16384) k, xs, ?_, ?_, H3.out, fun i hi u hu => ?_⟩
    · have := heap_setCell_same w g 2 _ _ (.bool true) H1.out
      rw [this]
      simp [show 16384 < cs.length + 1 by omega]
    · have h5 : min (cs ++ [c]).length 16384 = min cs.length 16384 := by simp; omega
      rw [h5]
      refine H2.out.kept hgr ?_
      rw [H3.out]
      cases ho : own with
      | none => exact .inl rfl
      | some b => exact .inr (by have := Hlt.out.2 b ho; simp; omega)
    · have hxl := H2.out.1
      have hil : i < cs.length := by have := (List.getElem?_eq_some_iff.1 hu).1; omega
      rw [List.getElem_append_left hil]
      exact RInts.stable _ _ _ _ _ _ (H4.out i hil u hu) ((ag_setCell w ⟨g, 2, none⟩ (.bool true)).sub fun b hb => Nat.ne_of_gt hb.2.1) fun b hb => ⟨by simpa using hb.1, hb.2⟩
  · have hmin : min cs.length 16384 = cs.length := by omega
    rw [hmin] at hc1
    have Hmin := Lib.hid hmin; clear hmin
    have H2' := Lib.hid (show w.ownsRow (g + 1) 37 1 (.slice A cs.length k) cs.length xs by have := H2.out; rwa [Hmin.out] at this)
    have H3' := Lib.hid (show (Value.slice A cs.length k).ownBlock = own by have := H3.out; rwa [Hmin.out] at this)
    go_enter Try.func40, Try.ntmps40
    go_wp2_with (
      at_builtin
      go_must (refine wpList_push rfl _ _ _ rfl eRow (v := .slice A cs.length k) rfl (H2'.out.alloc _) w.heap.size (.slice A9 c.length k9) rfl (by simp [go_sem]) rfl (by omega) (by simp; omega) ?_)
      intro v1 w3 hown1 hg1 hat1
      obtain ⟨A1, k1, rfl⟩ := own_shape hown1
      go_must (have hgb := (hg1.block g (by simp; omega) (by rw [H3'.out]; exact fun e => by have := Hlt.out.2 g e.symm; omega)).trans ((Below.heap_alloc w _ g hgw).trans H1.out))
      go_must (have hd1 : w3.cell? ⟨g, 1, none⟩ = some (.slice A (min cs.length 16384) k) := by rw [cell_of_row _ _ 1 _ _ _ hgb]; rfl)
      go_must (have hfz1 : w3.frozen? ⟨g, 1, none⟩ = false := frozen_of_row w3 g 1 _ _ hgb)
      have Hgb := Lib.hid hgb
      clear hgb)
    go_end0
    have hsz3 : w.heap.size + 1 ≤ w3.heap.size := by have := hg1.size; simpa using this
    have hag : Ag (inS w g own) w (w3.setCell ⟨g, 1, none⟩ (Value.slice A1 (cs.length + 1) k1)) := fun b hb =>
      (Below.heap_setCell _ _ _ _ (fun e => Nat.ne_of_gt hb.2.1 e)).trans ((hg1.block b (by simp; omega) (by rw [H3'.out]; exact hb.2.2)).trans (Below.heap_alloc w _ b hb.1))
    have hgr : w3.grownBy (w3.setCell ⟨g, 1, none⟩ (Value.slice A1 (cs.length + 1) k1)) (some g) := ⟨rfl, rfl, rfl, by simp, fun k _ hk => Below.heap_setCell _ _ _ _ (fun e => hk (by simp [e]))⟩
    have hvv : ∀ b, (Value.slice A1 (cs.length + 1) k1).ownBlock = some b → g < b := fun b hb => by have := (hown1.lt b hb).1; omega
    have howns : (Value.slice A1 (cs.length + 1) k1).ownBlock = own ∨ ∃ b, (Value.slice A1 (cs.length + 1) k1).ownBlock = some b ∧ w.heap.size ≤ b := by
      rcases hat1 with h | h
      · exact .inl (h.trans H3'.out)
      · exact .inr ⟨_, h, by simp⟩
    have hinner : ∀ b, inS w g own b → inS (w3.setCell ⟨g, 1, none⟩ (Value.slice A1 (cs.length + 1) k1)) g (Value.slice A1 (cs.length + 1) k1).ownBlock b := fun b hb => ⟨by simp; omega, hb.2.1, by
      rcases howns with h | ⟨b', h, hb'⟩
      · rw [h]; exact hb.2.2
      · rw [h]; intro e; simp at e; omega⟩
    refine ⟨rfl, (Value.slice A1 (cs.length + 1) k1).ownBlock, ⟨(Value.slice A1 (cs.length + 1) k1), xs ++ [.slice A9 c.length k9], ?_, ?_, rfl, fun i hi u hu => ?_⟩, howns, hag, ?_⟩
    · have := heap_setCell_same w3 g 1 _ _ (Value.slice A1 (cs.length + 1) k1) Hgb.out
      rw [this]
      simp [show ¬ 16384 < cs.length by omega, show ¬ 16384 < cs.length + 1 by omega]
    · have h5 : min (cs ++ [c]).length 16384 = cs.length + 1 := by simp; omega
      rw [h5]
      refine hown1.kept hgr ?_
      cases ho : (Value.slice A1 (cs.length + 1) k1).ownBlock with
      | none => exact .inl rfl
      | some b => exact .inr (by have := hvv b ho; simp; omega)
    · have hxl : xs.length = cs.length := by have := H2'.out.1; simpa using this
      rcases Nat.lt_or_ge i cs.length with h | h
      · rw [List.getElem?_append_left (by omega)] at hu
        rw [List.getElem_append_left h]
        exact RInts.stable _ _ _ _ _ _ (H4.out i h u hu) hag hinner
      · have hie : i = cs.length := by simp at hi; omega
        subst hie
        rw [List.getElem?_append_right (by omega), hxl] at hu
        simp at hu
        subst hu
        simp only [List.getElem_append_right (Nat.le_refl _), Nat.sub_self, List.getElem_cons_zero]
        exact RInts.stable _ _ _ _ _ _ Hl.out hag hinner
    · refine (((Below.refl g w).alloc (Nat.le_of_lt hgw) _).grown hg1 (by simp; omega) (fun b hb => ?_)).setCell (p := ⟨g, 1, none⟩) (Nat.le_refl g) _
      have := Hlt.out.2 b (by rw [← H3'.out]; exact hb)
      omega
end Go.Proofs.Ytcebafeaikipmaa

namespace Go.Proofs.Ytcebafeaikipmaa
open Go.RowKit

def badLit (v : Int) (x : Int) : Bool := x == 0 || decide (v < x) || decide (x < -v)
def satMayN (v : Int) (cls : List (List Int)) : Nat :=
  if 1024 < v ∨ 16384 < cls.length then 2 else if cls.any (fun c => decide (2048 < c.length)) then 2 else if v < 0 then 1 else if cls.any (fun c => c.any (badLit v)) then 1 else 0

set_option maxHeartbeats 1000000 in
theorem satMay_any (v : Int) (s : Value) (cls : List (List Int)) (w : World) (hs : RIntss w (Lt w.heap.size) s cls) :
    Calls Try.prog 41 #[.agg #[.int .i64 v, s]] w fun e w' => e = .returned (.int .i64 (satMayN v cls : Nat)) ∧ Below w.heap.size w w' := by
  obtain ⟨A, c, rfl, hm, hat⟩ := hs.open_
  have hb : Below w.heap.size w (w.alloc (.cells #[.int .i64 v, .slice A cls.length c] 61)) := (Below.refl _ _).alloc (Nat.le_refl _) _
  have Hb := Lib.hid hb; clear hb
  have Hat := Lib.hid hat; clear hat
  by_cases h1 : 1024 < v
  · have Hd := Lib.hid (show (2 : Int) = (satMayN v cls : Nat) by simp [satMayN, h1])
    go_enter Try.func41, Try.ntmps41
    go_wp2
    go_ret
    exact ⟨ret_int Hd.out, Hb.out⟩
  by_cases h2 : 16384 < cls.length
  · have Hd := Lib.hid (show (2 : Int) = (satMayN v cls : Nat) by simp [satMayN, h1, h2])
    go_enter Try.func41, Try.ntmps41
    go_wp2
    go_ret
    exact ⟨ret_int Hd.out, Hb.out⟩
  have Hn := Lib.hid (show satMayN v cls = if cls.any (fun c => decide (2048 < c.length)) then 2 else if v < 0 then 1 else if cls.any (fun c => c.any (badLit v)) then 1 else 0 by simp only [satMayN]; rw [if_neg (by omega)])
  go_enter Try.func41, Try.ntmps41
  go_wp2
  go_loop [21] (fun sv => ∃ k : Nat, k ≤ (cls).length ∧ sv = .int .i64 k ∧ Hid ((cls.take k).any (fun c => decide (2048 < c.length)) = false)) (fun sv => (cls).length - (intOf sv).toNat)
  case atStart => exact ⟨0, Nat.zero_le _, rfl, hid_nil_any _ _⟩
  case round =>
    obtain ⟨k, hkle, rfl, hkinv⟩ := hrel
    by_cases hklt : k < (cls).length
    · obtain ⟨bk, offk, uk, rfl, hbk, hcellk, huk⟩ := Hat.out.lt_ hklt
      obtain ⟨A2, c2, rfl, hm2, hat2⟩ := huk.open_
      clear hat2
      by_cases h3 : 2048 < cls[k].length
      · have hbig : cls.any (fun c => decide (2048 < c.length)) = true := any_at (h := hklt) (by simpa using h3)
        have Hd := Lib.hid (show (2 : Int) = (satMayN v cls : Nat) by rw [Hn.out, hbig]; rfl)
        clear hbig
        go_wp2
        go_ret
        exact ⟨ret_int Hd.out, Hb.out⟩
      · go_wp2
        go_round
        case rel => exact ⟨k + 1, by omega, by go_num, (hid_any_succ hklt hkinv (by simpa using h3))⟩
        case measure => simp [intOf]; omega
    · obtain rfl : k = (cls).length := by omega
      have hnb := hid_any_end hkinv
      clear hkinv
      by_cases h4 : v < 0
      · have Hd := Lib.hid (show (1 : Int) = (satMayN v cls : Nat) by rw [Hn.out, hnb, if_pos h4]; rfl)
        clear hnb
        go_wp2
        go_ret
        exact ⟨ret_int Hd.out, Hb.out⟩
      have Hn2 := Lib.hid (show satMayN v cls = if cls.any (fun c => c.any (badLit v)) then 1 else 0 by rw [Hn.out, hnb, if_neg h4]; rfl)
      clear hnb
      go_wp2
      go_loop [35] (fun sv => ∃ i : Nat, i ≤ (cls).length ∧ sv = .int .i64 i ∧ Hid ((cls.take i).any (fun c => c.any (badLit v)) = false)) (fun sv => (cls).length - (intOf sv).toNat)
      case atStart => exact ⟨0, Nat.zero_le _, rfl, hid_nil_any _ _⟩
      case round =>
        obtain ⟨i, hile, rfl, hiinv⟩ := hrel
        by_cases hilt : i < (cls).length
        · obtain ⟨bi, offi, ui, rfl, hbi, hcelli, hui⟩ := Hat.out.lt_ hilt
          obtain ⟨A2, c2, rfl, hm2, hat2⟩ := hui.open_
          have Hat2 := Lib.hid hat2; clear hat2
          go_wp2
          go_loop [41] (fun sv => ∃ j : Nat, j ≤ (cls[i]).length ∧ sv = .int .i64 j ∧ Hid ((cls[i].take j).any (badLit v) = false)) (fun sv => (cls[i]).length - (intOf sv).toNat)
          case atStart => exact ⟨0, Nat.zero_le _, rfl, hid_nil_any _ _⟩
          case round =>
            obtain ⟨j, hjle, rfl, hjinv⟩ := hrel
            by_cases hjlt : j < (cls[i]).length
            · obtain ⟨bj, offj, uj, rfl, hbj, hcellj, huj⟩ := Hat2.out.lt_ hjlt
              obtain rfl := huj
              cases hx : badLit v cls[i][j] with
              | true =>
                have hbad : cls.any (fun c => c.any (badLit v)) = true := any_at (h := hilt) (any_at (h := hjlt) hx)
                have Hd := Lib.hid (show (1 : Int) = (satMayN v cls : Nat) by rw [Hn2.out, hbad]; rfl)
                clear hbad
                simp only [badLit, Bool.or_eq_true, beq_iff_eq, decide_eq_true_eq] at hx
                by_cases hx0 : cls[i][j] = 0
                · have hx0' : (cls[i][j] == 0) = true := by simp [hx0]
                  clear hx hx0
                  go_wp2
                  go_ret
                  exact ⟨ret_int Hd.out, Hb.out⟩
                have hx0' : (cls[i][j] == 0) = false := by simp [hx0]
                by_cases hx1 : v < cls[i][j]
                · clear hx hx0
                  go_wp2
                  go_ret
                  exact ⟨ret_int Hd.out, Hb.out⟩
                have hx2 : cls[i][j] < -v := by omega
                clear hx hx0
                go_wp2
                go_ret
                exact ⟨ret_int Hd.out, Hb.out⟩
              | false =>
                have Hx := Lib.hid hx
                simp only [badLit, Bool.or_eq_false_iff, beq_eq_false_iff_ne, decide_eq_false_iff_not] at hx
                have hx0 : (cls[i][j] == 0) = false := by simp [hx.1.1]
                have hx1 := hx.1.2
                have hx2 := hx.2
                clear hx
                go_wp2
                go_round
                case rel => exact ⟨j + 1, by omega, by go_num, (hid_any_succ hjlt hjinv Hx.out)⟩
                case measure => simp [intOf]; omega
            · obtain rfl : j = (cls[i]).length := by omega
              go_wp2
              go_round
              case rel => exact ⟨i + 1, by omega, by go_num, (hid_any_succ hilt hiinv (hid_any_end hjinv))⟩
              case measure => simp [intOf]; omega
        · obtain rfl : i = (cls).length := by omega
          go_wp2
          go_ret
          exact ⟨ret_int (by rw [Hn2.out, hid_any_end hiinv]; rfl), Hb.out⟩
end Go.Proofs.Ytcebafeaikipmaa
