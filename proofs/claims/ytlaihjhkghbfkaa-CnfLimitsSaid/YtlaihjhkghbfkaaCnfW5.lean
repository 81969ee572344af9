/- Which numbers are right for a deal: what the reference computes. -/
import Derived.Test.YtlaihjhkghbfkaaCnfW4
namespace Go.Proofs.Ytlaihjhkghbfkaa
open Go.RowKit

def keyAt (items : List ItemD) (n : Int) : KeyD := ((items[n.toNat]?).map (·.1)).getD (⟨#[]⟩, ⟨#[]⟩, ⟨#[]⟩, ⟨#[]⟩)
def wantsAt (wss : List (List (List Int))) (n : Int) : List (List Int) := (wss[n.toNat]?).getD []
def clash (items : List ItemD) (n k : Int) : Bool := isItemB items.length k && (decide (k ≠ n) && decide (keyAt items k = keyAt items n))
def wantOk (taken : List Int) (w : List Int) : Bool := w.any (hasB taken)
def rightB (items : List ItemD) (wss : List (List (List Int))) (r : Int) (taken : List Int) : Bool :=
  decide (mayN items.length r wss = 0) && hasB taken r && taken.all (isItemB items.length) && (taken.all fun n => !taken.any (clash items n)) && taken.all fun n => (wantsAt wss n).all (wantOk taken)

theorem keyAt_eq {items : List ItemD} {n : Int} (h : n.toNat < items.length) : keyAt items n = items[n.toNat].1 := by simp [keyAt, h]
theorem wantsAt_eq {wss : List (List (List Int))} {n : Int} (h : n.toNat < wss.length) : wantsAt wss n = wss[n.toNat] := by simp [wantsAt, h]
theorem isItemB_iff {n0 : Nat} {n : Int} : isItemB n0 n = true ↔ 0 ≤ n ∧ n < n0 := by simp [isItemB]
theorem mayN_zero {n0 : Nat} {r : Int} {wss : List (List (List Int))} (h : mayN n0 r wss = 0) : n0 ≤ 1024 ∧ isItemB n0 r = true ∧ wss.length = n0 ∧ badRR n0 wss = false := by
  unfold mayN at h
  split at h
  · simp at h
  · split at h
    · simp at h
    · split at h
      · simp at h
      · rename_i h1 h2 h3
        simp at h2 h3
        exact ⟨by omega, h2.1, h2.2, h3⟩
/-- The five cells of an item. -/
theorem item_cells {w : World} {n : Nat} {A : Option Addr} {items : List ItemD} (h : RAtV 5 VItem w (Lt n) A items) {k : Nat} (hk : k < items.length) :
    ∃ b off, A = some ⟨b, off, none⟩ ∧ b < n ∧ w.cell? ⟨b, off + k * 5, none⟩ = some (.string items[k].1.1) ∧ w.cell? ⟨b, off + k * 5 + 1, none⟩ = some (.string items[k].1.2.1) ∧
      w.cell? ⟨b, off + k * 5 + 2, none⟩ = some (.string items[k].1.2.2.1) ∧ w.cell? ⟨b, off + k * 5 + 3, none⟩ = some (.string items[k].1.2.2.2) ∧ w.cell? ⟨b, off + k * 5 + 4, none⟩ = some (.string items[k].2) := by
  obtain ⟨b, off, e, hb, hc⟩ := h (by omega)
  have := hc k hk
  exact ⟨b, off, e, hb, this 0 _ rfl, this 1 _ rfl, this 2 _ rfl, this 3 _ rfl, this 4 _ rfl⟩
theorem key_beq {a b : KeyD} : (a.1.toList == b.1.toList && (a.2.1.toList == b.2.1.toList && (a.2.2.1.toList == b.2.2.1.toList && a.2.2.2.toList == b.2.2.2.toList))) = decide (a = b) := by
  rw [ba_beq, ba_beq, ba_beq, ba_beq, Bool.eq_iff_iff]
  simp only [Bool.and_eq_true, decide_eq_true_eq, Prod.ext_iff]

theorem item_again {w : World} {n b off : Nat} {items : List ItemD} (h : RAtV 5 VItem w (Lt n) (some ⟨b, off, none⟩) items) {k : Nat} (hk : k < items.length) :
    w.cell? ⟨b, off + k * 5, none⟩ = some (.string items[k].1.1) ∧ w.cell? ⟨b, off + k * 5 + 1, none⟩ = some (.string items[k].1.2.1) ∧
      w.cell? ⟨b, off + k * 5 + 2, none⟩ = some (.string items[k].1.2.2.1) ∧ w.cell? ⟨b, off + k * 5 + 3, none⟩ = some (.string items[k].1.2.2.2) ∧ w.cell? ⟨b, off + k * 5 + 4, none⟩ = some (.string items[k].2) := by
  obtain ⟨b', off', e, _, h5⟩ := item_cells h hk
  simp only [Option.some.injEq, Addr.mk.injEq, and_true] at e
  obtain ⟨rfl, rfl⟩ := e
  exact h5
theorem eqKey (a b : KeyD) (W : World) : (binOp .eql 47 (.agg #[.string a.1, .string a.2.1, .string a.2.2.1, .string a.2.2.2]) (.agg #[.string b.1, .string b.2.1, .string b.2.2.1, .string b.2.2.2])).run Try.prog W = .ok (.bool (decide (a = b))) W := by
  rw [← key_beq]
  go_simp
  (repeat' split) <;> simp_all

set_option maxRecDepth 100000 in
set_option maxHeartbeats 2000000 in
theorem refRight_any (s0 s1 s2 : Value) (r : Int) (items : List ItemD) (wss : List (List (List Int))) (taken : List Int) (w : World) (h0 : RItems w (Lt w.heap.size) s0 items)
    (hw : RIntsss w (Lt w.heap.size) s1 wss) (ht : RInts w (Lt w.heap.size) s2 taken) :
    Calls Try.prog 18 #[.agg #[s0, s1, .int .i64 r], s2] w fun e w' => e = .returned (.bool (rightB items wss r taken)) ∧ Below w.heap.size w w' := by
  have Hw := Lib.hid hw; have Ht := Lib.hid ht
  obtain ⟨A0, c0, rfl, hm0, hat0⟩ := h0.open_
  obtain ⟨A1, c1, rfl, hm1, hat1⟩ := hw.open_
  obtain ⟨A2, c2, rfl, hm2, hat2⟩ := ht.open_
  clear h0 hw ht
  have Hat0 := Lib.hid hat0; clear hat0
  have Hat1 := Lib.hid hat1; clear hat1
  have Hat2 := Lib.hid hat2; clear hat2
  by_cases hmay : mayN items.length r wss = 0
  case neg =>
    have Hd := Lib.hid (show false = rightB items wss r taken by simp [rightB, hmay])
    have hmay' : ((mayN items.length r wss : Nat) != (0 : Int)) = true := by simp; omega
    go_enter Try.func18, Try.ntmps18
    go_wp2_with (go_at_call 12; refine (refMay_any _ _ _ _ _ _ _ (RIntsss.stable.up Hw.out (below_alloc _ _))).mono ?_; rintro e w1 ⟨rfl, hb⟩; obtain ⟨hc0, hc1, hc2⟩ := box3 hb)
    go_ret
    exact ⟨ret_bool Hd.out, ((Below.refl _ _).alloc (Nat.le_refl _) _).trans (hb.mono (by simp))⟩
  case pos =>
  cases hroot : hasB taken r with
  | false =>
    have Hd := Lib.hid (show false = rightB items wss r taken by simp [rightB, hroot])
    have Hroot := Lib.hid hroot; clear hroot
    have hmay' : ((mayN items.length r wss : Nat) != (0 : Int)) = false := by simp [hmay]
    have Hmay := Lib.hid hmay; clear hmay
    go_enter Try.func18, Try.ntmps18
    go_wp2_with (first
      | (go_at_call 12; refine (refMay_any _ _ _ _ _ _ _ (RIntsss.stable.up Hw.out (below_alloc _ _))).mono ?_; rintro e w1 ⟨rfl, hb⟩; obtain ⟨hc0, hc1, hc2⟩ := box3 hb)
      | (go_at_call 25; refine (has_any _ _ taken _ (B := w.heap.size) ?_).mono ?_; (exact RInts.stable.below Ht.out ((below_alloc _ _).trans (hb.mono (by simp)))); rintro e w2 ⟨rfl, rfl⟩; rw [Hroot.out]))
    go_ret
    exact ⟨ret_bool Hd.out, (below_alloc _ _).trans (hb.mono (by simp))⟩
  | true =>
  obtain ⟨hn0, hr, hlen, hbad⟩ := mayN_zero hmay
  have Hroot := Lib.hid hroot; clear hroot
  have hmay' : ((mayN items.length r wss : Nat) != (0 : Int)) = false := by simp [hmay]
  have Hmay := Lib.hid hmay; clear hmay
  have Hbad := Lib.hid hbad; clear hbad
  have Hr := Lib.hid hr; clear hr
  have Hlen := Lib.hid hlen; clear hlen
  go_enter Try.func18, Try.ntmps18
  go_wp2_with (first
      | (go_at_call 12; refine (refMay_any _ _ _ _ _ _ _ (RIntsss.stable.up Hw.out (below_alloc _ _))).mono ?_; rintro e w1 ⟨rfl, hb⟩; obtain ⟨hc0, hc1, hc2⟩ := box3 hb)
      | (go_at_call 25; refine (has_any _ _ taken _ (B := w.heap.size) ?_).mono ?_; (exact RInts.stable.below Ht.out ((below_alloc _ _).trans (hb.mono (by simp)))); rintro e w2 ⟨rfl, rfl⟩; rw [Hroot.out]))
  have hbw : Below w.heap.size w w1 := (below_alloc _ _).trans (hb.mono (by simp))
  have Hbw := Lib.hid hbw
  have Ht1 := Lib.hid (RInts.stable.below Ht.out hbw)
  have Hat2' := Lib.hid (Hat2.out.agree RInt.stable (ag_of_below hbw) (fun _ h => h))
  have Hat1' := Lib.hid (Hat1.out.agree RIntss.stable (ag_of_below hbw) (fun _ h => h))
  have Hat0' := Lib.hid (Hat0.out.agree (VCells.stable _) (ag_of_below hbw) (fun _ h => h))
  clear hbw hb Hat0 Hat1 Hat2 Ht Hw
  go_loopw [26] (fun sv wr => ∃ k : Nat, k ≤ taken.length ∧ sv = .int .i64 k ∧ (∃ m, wr = w1.drewN m) ∧ Hid ((taken.take k).all (fun n => isItemB items.length n && !taken.any (clash items n) && (wantsAt wss n).all (wantOk taken)) = true)) (fun sv _ => taken.length - (intOf sv).toNat)
  case atStart => exact ⟨0, Nat.zero_le _, rfl, ⟨0, rfl⟩, by simp [Hid]⟩
  case round =>
    obtain ⟨k, hkle, rfl, ⟨m, rfl⟩, hkinv⟩ := hrel
    by_cases hklt : k < taken.length
    · obtain ⟨bk, offk, uk, rfl, hbk, hcellk, huk⟩ := Hat2'.out.lt_ hklt
      obtain rfl := huk
      by_cases hneg : taken[k] < 0
      · have Hd := Lib.hid (show false = rightB items wss r taken by
          have : taken.all (isItemB items.length) = false := all_at (h := hklt) (by simp [isItemB]; omega)
          simp [rightB, this])
        go_wp2
        go_ret
        exact ⟨ret_bool Hd.out, below_drewN Hbw.out _⟩
      by_cases hbig : (items.length : Int) ≤ taken[k]
      · have Hd := Lib.hid (show false = rightB items wss r taken by
          have : taken.all (isItemB items.length) = false := all_at (h := hklt) (by simp [isItemB]; omega)
          simp [rightB, this])
        go_wp2
        go_ret
        exact ⟨ret_bool Hd.out, below_drewN Hbw.out _⟩
      have hlt1 : (taken[k]).toNat < items.length := by omega
      obtain ⟨bi, offi, rfl, hbi, hi0, hi1, hi2, hi3, hi4⟩ := item_cells Hat0'.out hlt1
      clear hi4
      go_wp2
      go_loopw [41] (fun sv wr => ∃ j : Nat, j ≤ taken.length ∧ sv = .int .i64 j ∧ (∃ m, wr = w1.drewN m) ∧ Hid ((taken.take j).any (clash items taken[k]) = false)) (fun sv _ => taken.length - (intOf sv).toNat)
      case atStart => exact ⟨0, Nat.zero_le _, rfl, ⟨m, rfl⟩, hid_nil_any _ _⟩
      case round =>
        obtain ⟨j, hjle, rfl, ⟨m2, rfl⟩, hjinv⟩ := hrel
        by_cases hjlt : j < taken.length
        · obtain ⟨uj, hcellj, huj⟩ := Hat2'.out.again hjlt
          obtain rfl := huj
          by_cases hneg2 : taken[j] < 0
          · have Hc := Lib.hid (show clash items taken[k] taken[j] = false by simp [clash, isItemB]; omega)
            have hg1 : decide (0 ≤ taken[j]) = false := by simpa using hneg2
            go_wp2
            go_quiet (fail)
            go_wp2
            go_roundw
            case rel => exact ⟨j + 1, by omega, by go_num, ⟨_, rfl⟩, hid_any_succ hjlt hjinv Hc.out⟩
            case measure => simp [intOf]; omega
          have hg1 : decide (0 ≤ taken[j]) = true := by simpa using hneg2
          by_cases hbig2 : (items.length : Int) ≤ taken[j]
          · have Hc := Lib.hid (show clash items taken[k] taken[j] = false by simp [clash, isItemB]; omega)
            have hg2 : decide (taken[j] < (items.length : Int)) = false := by simpa using hbig2
            go_wp2
            go_quiet (fail)
            go_wp2
            go_roundw
            case rel => exact ⟨j + 1, by omega, by go_num, ⟨_, rfl⟩, hid_any_succ hjlt hjinv Hc.out⟩
            case measure => simp [intOf]; omega
          have hg2 : decide (taken[j] < (items.length : Int)) = true := by simpa using hbig2
          by_cases hsame : taken[j] = taken[k]
          · have Hc := Lib.hid (show clash items taken[k] taken[j] = false by simp [clash, hsame])
            have hg3 : (taken[j] != taken[k]) = false := by simp [hsame]
            clear hsame
            go_wp2
            go_quiet (fail)
            go_wp2
            go_roundw
            case rel => exact ⟨j + 1, by omega, by go_num, ⟨_, rfl⟩, hid_any_succ hjlt hjinv Hc.out⟩
            case measure => simp [intOf]; omega
          have hg3 : (taken[j] != taken[k]) = true := by simp [hsame]
          have hlt2 : (taken[j]).toNat < items.length := by omega
          obtain ⟨hj0, hj1, hj2, hj3, _⟩ := item_again Hat0'.out hlt2
          have Hcl := Lib.hid (show clash items taken[k] taken[j] = decide (items[(taken[j]).toNat].1 = items[(taken[k]).toNat].1) by
            rw [clash, keyAt_eq hlt1, keyAt_eq hlt2, show isItemB items.length taken[j] = true by simp [isItemB]; omega]; simp [hsame])
          clear hsame
          cases hq : decide (items[(taken[j]).toNat].1 = items[(taken[k]).toNat].1) with
          | true =>
            have heq : ∀ W : World, (binOp .eql 47 (.agg #[.string items[(taken[j]).toNat].1.1, .string items[(taken[j]).toNat].1.2.1, .string items[(taken[j]).toNat].1.2.2.1, .string items[(taken[j]).toNat].1.2.2.2]) (.agg #[.string items[(taken[k]).toNat].1.1, .string items[(taken[k]).toNat].1.2.1, .string items[(taken[k]).toNat].1.2.2.1, .string items[(taken[k]).toNat].1.2.2.2])).run Try.prog W = .ok (.bool true) W := fun W => by rw [eqKey, hq]
            have Hd := Lib.hid (show false = rightB items wss r taken by
              have : (taken.all fun n => !taken.any (clash items n)) = false := all_at (h := hklt) (by rw [any_at (h := hjlt) (by rw [Hcl.out, hq])]; rfl)
              simp [rightB, this])
            clear hq
            go_wp2
            go_quiet (fail)
            go_wp2
            go_ret
            exact ⟨ret_bool Hd.out, below_drewN (below_drewN Hbw.out _) _⟩
          | false =>
            have heq : ∀ W : World, (binOp .eql 47 (.agg #[.string items[(taken[j]).toNat].1.1, .string items[(taken[j]).toNat].1.2.1, .string items[(taken[j]).toNat].1.2.2.1, .string items[(taken[j]).toNat].1.2.2.2]) (.agg #[.string items[(taken[k]).toNat].1.1, .string items[(taken[k]).toNat].1.2.1, .string items[(taken[k]).toNat].1.2.2.1, .string items[(taken[k]).toNat].1.2.2.2])).run Try.prog W = .ok (.bool false) W := fun W => by rw [eqKey, hq]
            have Hc := Lib.hid (Hcl.out.trans hq)
            clear hq
            go_wp2
            go_quiet (fail)
            go_wp2
            go_roundw
            case rel => exact ⟨j + 1, by omega, by go_num, ⟨_, rfl⟩, hid_any_succ hjlt hjinv Hc.out⟩
            case measure => simp [intOf]; omega
        · obtain rfl : j = taken.length := by omega
          have Hnc := Lib.hid (hid_any_end hjinv)
          have hlt3 : (taken[k]).toNat < wss.length := by have := Hlen.out; omega
          obtain ⟨bw, offw, uw, rfl, hbw, hcellw, huw⟩ := Hat1'.out.lt_ hlt3
          obtain ⟨A3, c3, rfl, hm3, hat3⟩ := huw.open_
          have Hat3 := Lib.hid hat3; clear hat3
          clear hi0 hi1 hi2 hi3
          go_wp2
          go_loopw [81] (fun sv wr => ∃ i : Nat, i ≤ (wss[(taken[k]).toNat]).length ∧ sv = .int .i64 i ∧ (∃ m, wr = w1.drewN m) ∧ Hid (((wss[(taken[k]).toNat]).take i).all (wantOk taken) = true)) (fun sv _ => (wss[(taken[k]).toNat]).length - (intOf sv).toNat)
          case atStart => exact ⟨0, Nat.zero_le _, rfl, ⟨m2, rfl⟩, by simp [Hid]⟩
          case round =>
            obtain ⟨i, hile, rfl, ⟨m3, rfl⟩, hiinv⟩ := hrel
            by_cases hilt : i < (wss[(taken[k]).toNat]).length
            · obtain ⟨b3, off3, u3, rfl, hb3, hcell3, hu3⟩ := Hat3.out.lt_ hilt
              obtain ⟨A4, c4, rfl, hm4, hat4⟩ := hu3.open_
              have Hat4 := Lib.hid hat4; clear hat4
              go_wp2
              go_loopw [87, 11] (fun sv ok wr => ∃ q : Nat, q ≤ (wss[(taken[k]).toNat][i]).length ∧ sv = .int .i64 q ∧ (∃ m, wr = w1.drewN m) ∧ ok = .bool (wantOk taken ((wss[(taken[k]).toNat][i]).take q))) (fun sv _ _ => (wss[(taken[k]).toNat][i]).length - (intOf sv).toNat)
              case atStart => exact ⟨0, Nat.zero_le _, rfl, ⟨m3, rfl⟩, rfl⟩
              case round =>
                obtain ⟨q, hqle, rfl, ⟨m4, rfl⟩, rfl⟩ := hrel
                by_cases hqlt : q < (wss[(taken[k]).toNat][i]).length
                · obtain ⟨b4, off4, u4, rfl, hb4, hcell4, hu4⟩ := Hat4.out.lt_ hqlt
                  obtain rfl := hu4
                  have hs := any_take_succ (hasB taken) (wss[(taken[k]).toNat][i]) q hqlt
                  cases hany : wantOk taken ((wss[(taken[k]).toNat][i]).take q) with
                  | true =>
                    have Hany := Lib.hid (show Value.bool true = .bool (wantOk taken ((wss[(taken[k]).toNat][i]).take (q + 1))) by rw [wantOk, hs, show ((wss[(taken[k]).toNat][i]).take q).any (hasB taken) = true from hany]; rfl)
                    clear hany hs
                    go_wp2
                    go_roundw
                    case rel => exact ⟨q + 1, by omega, by go_num, ⟨_, rfl⟩, Hany.out⟩
                    case measure => simp [intOf]; omega
                  | false =>
                    have Hany := Lib.hid (show Value.bool (hasB taken (wss[(taken[k]).toNat][i][q])) = .bool (wantOk taken ((wss[(taken[k]).toNat][i]).take (q + 1))) by rw [wantOk, hs, show ((wss[(taken[k]).toNat][i]).take q).any (hasB taken) = false from hany]; rfl)
                    clear hany hs
                    go_wp2_with (go_at_call 25; refine (has_any _ _ taken _ (B := w.heap.size) ?_).mono ?_; (exact RInts.stable.below Ht1.out (below_drewN (Below.refl _ _) _)); rintro e w2 ⟨rfl, rfl⟩)
                    go_roundw
                    case rel => exact ⟨q + 1, by omega, by go_num, ⟨_, rfl⟩, Hany.out⟩
                    case measure => simp [intOf]; omega
                · obtain rfl : q = (wss[(taken[k]).toNat][i]).length := by omega
                  rw [List.take_length]
                  cases hany : wantOk taken (wss[(taken[k]).toNat][i]) with
                  | true =>
                    have Hany := Lib.hid hany; clear hany
                    go_wp2
                    go_roundw
                    case rel => exact ⟨i + 1, by omega, by go_num, ⟨_, rfl⟩, by rw [Hid, all_take_succ _ _ _ hilt, hiinv.out, Hany.out]; rfl⟩
                    case measure => simp [intOf]; omega
                  | false =>
                    have Hd := Lib.hid (show false = rightB items wss r taken by
                      have : (taken.all fun n => (wantsAt wss n).all (wantOk taken)) = false := all_at (h := hklt) (by rw [wantsAt_eq hlt3]; exact all_at (h := hilt) hany)
                      simp [rightB, this])
                    clear hany
                    go_wp2
                    go_ret
                    exact ⟨ret_bool Hd.out, below_drewN Hbw.out _⟩
            · obtain rfl : i = (wss[(taken[k]).toNat]).length := by omega
              rw [List.take_length] at hiinv
              go_wp2
              go_roundw
              case rel => exact ⟨k + 1, by omega, by go_num, ⟨_, rfl⟩, by
                rw [Hid, all_take_succ _ _ _ hklt, hkinv.out, Hnc.out, wantsAt_eq hlt3, hiinv.out, show isItemB items.length taken[k] = true by simp [isItemB]; omega]; rfl⟩
              case measure => simp [intOf]; omega
    · obtain rfl : k = taken.length := by omega
      have Hd := Lib.hid (show true = rightB items wss r taken by
        have h := hkinv.out
        rw [List.take_length] at h
        simp only [rightB, Hmay.out, Hroot.out]
        simp only [List.all_eq_true, Bool.and_eq_true] at h
        have h1 : taken.all (isItemB items.length) = true := List.all_eq_true.2 fun x hx => (h x hx).1.1
        have h2 : (taken.all fun n => !taken.any (clash items n)) = true := List.all_eq_true.2 fun x hx => (h x hx).1.2
        have h3 : (taken.all fun n => (wantsAt wss n).all (wantOk taken)) = true := List.all_eq_true.2 fun x hx => List.all_eq_true.2 (h x hx).2
        rw [h1, h2, h3]; rfl)
      go_wp2
      go_ret
      exact ⟨ret_bool Hd.out, below_drewN Hbw.out _⟩
end Go.Proofs.Ytlaihjhkghbfkaa
