/- The law CnfLess, walked. -/
import Derived.Test.YtlaihjhkghbfkaaCnfM2
namespace Go.Proofs.Ytlaihjhkghbfkaa
open Go.RowKit Go.Sort

/-- An item is wanted: the root is, and what one of the taken wants. -/
def wantedB (wss : List (List (List Int))) (r : Int) (l : List Int) (n : Int) : Bool := decide (n = r) || l.any fun m => (wantsAt wss m).any fun w => hasB w n
theorem taken_rch {n0 : Nat} {wss : List (List (List Int))} {r : Nat} {t : List Bool} {met : List Bool} (hm : IsMet n0 wss t r met) {x : Int} : x ∈ trues met ↔ 0 ≤ x ∧ x < n0 ∧ mB met x.toNat = true := by
  rw [mem_trues]
  constructor
  · rintro ⟨h0, h1⟩
    refine ⟨h0, ?_, h1⟩
    rcases Int.lt_or_le x n0 with h | h
    · exact h
    · rw [mB_ge (by have := hm.1; omega)] at h1; simp at h1
  · rintro ⟨h0, _, h1⟩; exact ⟨h0, h1⟩
theorem less_right {items : List ItemD} {wss : List (List (List Int))} {r : Int} {t : List Bool} {l : List Int} (hm : mayN items.length r wss = 0) (hh : holdsI (allCls items wss r) t = -1) (ht : TakenIs items.length wss r t l) :
    rightB items wss r l = true := by
  obtain ⟨_, hr, _, hbad⟩ := mayN_zero hm
  obtain ⟨hr0, hr1⟩ := isItemB_iff.1 hr
  obtain ⟨rn, rfl⟩ := Int.eq_ofNat_of_zero_le hr0
  have hv := validW_of hbad
  have hM := (meant_iff (items := items) (r := rn) (t := t) hv).1 (holdsI_iff.1 hh)
  obtain ⟨met, hmet, rfl⟩ := ht.1 hm
  rw [Int.toNat_natCast] at hmet
  refine (rightB_iff (l := trues met) (p := mB met) hm fun x => taken_rch hmet).2 ⟨(hmet.2 rn (by omega)).2 (.root hM.root), fun i hi hp w hw => ?_, fun i k hik hk he h1 h2 => ?_⟩
  · have hil : i < items.length := by
      rcases Nat.lt_or_ge i items.length with h | h
      · exact h
      · rw [mB_ge (by have := hmet.1; omega)] at hp; simp at hp
    have hri := (hmet.2 i hil).1 hp
    obtain ⟨x, hx, hxt⟩ := hM.wants i hi hri.true_ w hw
    have hb := hv i hi w hw x hx
    refine ⟨x, hx, (hmet.2 x.toNat (by omega)).2 (.step hri hi hw ?_ hxt)⟩
    rw [show ((x.toNat : Nat) : Int) = x by omega]; exact hx
  · exact hM.keys i k hik hk he ((hmet.2 i (by omega)).1 h1).true_ ((hmet.2 k hk).1 h2).true_
theorem less_each {items : List ItemD} {wss : List (List (List Int))} {r : Int} {t : List Bool} {l : List Int} (hm : mayN items.length r wss = 0) (ht : TakenIs items.length wss r t l) {n : Int} (hn : n ∈ l) :
    0 ≤ n ∧ n.toNat < wss.length ∧ wantedB wss r l n = true ∧ tT t n.toNat = true := by
  obtain ⟨_, hr, hlen, hbad⟩ := mayN_zero hm
  obtain ⟨hr0, hr1⟩ := isItemB_iff.1 hr
  obtain ⟨rn, rfl⟩ := Int.eq_ofNat_of_zero_le hr0
  have hv := validW_of hbad
  obtain ⟨met, hmet, rfl⟩ := ht.1 hm
  rw [Int.toNat_natCast] at hmet
  obtain ⟨h0, h1, h2⟩ := (taken_rch hmet).1 hn
  have hrn := (hmet.2 n.toNat (by omega)).1 h2
  refine ⟨h0, by omega, ?_, hrn.true_⟩
  unfold wantedB
  cases hrn with
  | root _ => simp; left; omega
  | step hk hlt hw hx _ =>
    rename_i k w _
    have hkl := hk.lt hv (by omega)
    simp only [Bool.or_eq_true, decide_eq_true_eq]
    right
    refine List.any_eq_true.2 ⟨(k : Int), (taken_rch hmet).2 ⟨by omega, by omega, by simpa using (hmet.2 k hkl).2 hk⟩, ?_⟩
    rw [wantsAt_eq (by simpa using hlt)]
    refine List.any_eq_true.2 ⟨w, by simpa using hw, hasB_iff.2 ?_⟩
    rw [show n = ((n.toNat : Nat) : Int) by omega]; exact hx
theorem tT_at {t : List Bool} {n : Nat} (h : tT t n = true) : n < t.length ∧ ∀ (hl : n < t.length), t[n] = true := by
  unfold tT List.getD at h
  rcases Nat.lt_or_ge n t.length with hl | hl
  · exact ⟨hl, fun _ => by simpa [List.getElem?_eq_getElem hl] using h⟩
  · rw [List.getElem?_eq_none hl] at h; simp at h
theorem or_any_succ {α : Type} {b : Bool} {p : α → Bool} {l : List α} {k : Nat} (h : k < l.length) : (b || (l.take (k + 1)).any p) = ((b || (l.take k).any p) || p l[k]) := by
  rw [any_take_succ _ _ _ h, Bool.or_assoc]
theorem hasB_any (w : List Int) (n : Int) : hasB w n = w.any fun y => y == n := by
  rw [Bool.eq_iff_iff, hasB_iff, List.any_eq_true]
  simp

set_option maxRecDepth 100000 in
set_option maxHeartbeats 4000000 in
theorem walk_CnfLess (W : World) (v0 v1 : Value) (a0 : Arg Try.prog W 25 v0) (a1 : Arg Try.prog W 40 v1) :
    Calls Try.prog 7 #[v0, v1] W fun e W' => e = .returned (.bool true) ∧ Below W.heap.size W W' := by
  obtain ⟨s0, s1, r, items, wss, rfl, h0, h1, hr1, hr2⟩ := arg_deal a0
  obtain ⟨ts, h2⟩ := arg_slice a1 Try.underlying40 reads1_bools
  have H0 := Lib.hid h0; have H1 := Lib.hid h1; have H2 := Lib.hid h2
  obtain ⟨A0, c0, rfl⟩ := h0.shape
  obtain ⟨A1, c1, rfl⟩ := h1.shape
  obtain ⟨A2, c2, rfl⟩ := h2.shape
  clear h0 h1 h2 a0 a1 hr1 hr2
  by_cases hl : lightB items.length wss = true ∧ mayN items.length r wss = 0 ∧ ts.length ≤ 60
  case neg =>
    have hcase := notLight hl
    clear hl
    rcases hcase with hl | ⟨hl, hm⟩ | ⟨hl, hm, hn⟩
    · have Hl := Lib.hid hl; clear hl
      go_enter Try.func7, Try.ntmps7
      go_wp2_with (first
        | (go_at_call 9; refine (light_any _ _ _ _ _ wss _ (RIntsss.stable.up H1.out (below_alloc _ _))).mono ?_; rintro e w1 ⟨rfl, hb⟩; rw [Hl.out])
        | (go_at_call 10; refine (lives_any _).mono ?_; rintro e w2 ⟨rfl, hb2⟩))
      go_ret
      exact ⟨rfl, (below_alloc _ _).trans ((hb.mono (by simp)).trans (hb2.mono (by have := hb.size; simp at this; omega)))⟩
    all_goals
      have Hl := Lib.hid hl; clear hl
      have Hm := Lib.hid hm; clear hm
      go_enter Try.func7, Try.ntmps7
      go_wp2_with (first
        | (go_at_call 9
           refine (light_any _ _ _ _ _ wss _ (RIntsss.stable.up H1.out (below_alloc _ _))).mono ?_
           rintro e w1 ⟨rfl, hb⟩
           rw [Hl.out]
           obtain ⟨hx0, hx1, hx2⟩ := box3 hb
           have Hb1 := Lib.hid ((below_alloc _ _).trans (hb.mono (by simp)))
           have hz1 : W.heap.size < w1.heap.size := (by have := hb.size; simp at this; omega)
           clear hb)
        | (go_at_call 12; refine (refMay_any _ _ _ _ _ wss _ (RIntsss.stable.up H1.out Hb1.out)).mono ?_; rintro e w3 ⟨rfl, hb3⟩; rw [Hm.out]; have Hb3 := Lib.hid (Hb1.out.trans (hb3.mono (Nat.le_of_lt hz1))); clear hb3)
        | (go_at_call 10; refine (lives_any _).mono ?_; rintro e w2 ⟨rfl, hb2⟩))
      go_ret
      exact ⟨rfl, Hb3.out.trans (hb2.mono Hb3.out.size)⟩
  case pos =>
    obtain ⟨hl, hm, hn⟩ := hl
    have hlen := light_len hl hm
    have He := Lib.hid (show encR items wss r = ((items.length : Int), allCls items wss r, 0) by simp [encR, hm]; omega)
    have Hl := Lib.hid hl
    have Hlw := Lib.hid (lightW_of hl)
    have hn0 := lightB_n0 hl
    have Hm := Lib.hid (show ((mayN items.length r wss : Nat) : Int) = 0 by rw [hm]; rfl)
    have Hless := Lib.hid fun l => less_right (l := l) (t := ts) hm
    have Heach := Lib.hid fun l (ht : TakenIs items.length wss r ts l) n (hn : n ∈ l) => less_each hm ht hn
    clear hl hm hlen
    obtain ⟨cls, hcls⟩ : ∃ cls, cls = allCls items wss r := ⟨_, rfl⟩
    rw [← hcls] at He
    have Hholds := Lib.hid (show holdsI cls ts = holdsI (allCls items wss r) ts by rw [hcls])
    clear hcls
    go_enter Try.func7, Try.ntmps7
    go_wp2_with (first
        | (go_at_call 9
           refine (light_any _ _ _ _ _ wss _ (RIntsss.stable.up H1.out (below_alloc _ _))).mono ?_
           rintro e w1 ⟨rfl, hb⟩
           rw [Hl.out]
           obtain ⟨hx0, hx1, hx2⟩ := box3 hb
           have Hb1 := Lib.hid ((below_alloc _ _).trans (hb.mono (by simp)))
           have hz1 : W.heap.size < w1.heap.size := (by have := hb.size; simp at this; omega)
           clear hb)
        | (go_at_call 12
           refine (refMay_any _ _ _ _ _ wss _ (RIntsss.stable.up H1.out Hb1.out)).mono ?_
           rintro e w2 ⟨rfl, hb2⟩
           rw [Hm.out]
           have hy0 := (hb2.cell (p := ⟨W.heap.size, 0, none⟩) hz1).trans hx0
           have hy1 := (hb2.cell (p := ⟨W.heap.size, 1, none⟩) hz1).trans hx1
           have hy2 := (hb2.cell (p := ⟨W.heap.size, 2, none⟩) hz1).trans hx2
           have Hb2 := Lib.hid (Hb1.out.trans (hb2.mono (Nat.le_of_lt hz1)))
           have hz2 : W.heap.size < w2.heap.size := Nat.lt_of_lt_of_le hz1 hb2.size
           clear hb2 hx0 hx1 hx2)
        | (go_at_call 13
           refine (Encode_any _ _ r items wss _ (RItems.stable.up H0.out Hb2.out) (RIntsss.stable.up H1.out Hb2.out) Hlw.out).mono ?_
           intro e w3 hp
           rw [EncodePost, He.out] at hp
           obtain ⟨s, rfl, hs, hb3⟩ := hp
           obtain ⟨As, cs, rfl⟩ := hs.shape
           have hu0 := (hb3.cell (p := ⟨W.heap.size, 0, none⟩) hz2).trans hy0
           have hu1 := (hb3.cell (p := ⟨W.heap.size, 1, none⟩) hz2).trans hy1
           have hu2 := (hb3.cell (p := ⟨W.heap.size, 2, none⟩) hz2).trans hy2
           have hz3 : W.heap.size < w3.heap.size := Nat.lt_of_lt_of_le hz2 hb3.size
           have Hb3 := Lib.hid (Hb2.out.trans (hb3.mono (Nat.le_of_lt hz2)))
           have Hs := Lib.hid hs
           clear hy0 hy1 hy2 hs hb3))
    have hbe := below_alloc w3 (.cells #[.int .i64 (items.length : Int), .slice As cls.length cs] 34)
    have hv0 := (hbe.cell (p := ⟨W.heap.size, 0, none⟩) hz3).trans hu0
    have hv1 := (hbe.cell (p := ⟨W.heap.size, 1, none⟩) hz3).trans hu1
    have hv2 := (hbe.cell (p := ⟨W.heap.size, 2, none⟩) hz3).trans hu2
    have hz4 : W.heap.size < (w3.alloc (.cells #[.int .i64 (items.length : Int), .slice As cls.length cs] 34)).heap.size := by simp; omega
    have Hs4 := Lib.hid (RIntss.stable.up Hs.out hbe)
    have Hb4 := Lib.hid (Hb3.out.alloc Hb3.out.size (.cells #[.int .i64 (items.length : Int), .slice As cls.length cs] 34))
    clear hbe hu0 hu1 hu2 hz1 hz2 hz3 Hs Hb1 Hb2 Hb3 Hl Hlw He Hm
    generalize w3.alloc (.cells #[.int .i64 (items.length : Int), .slice As cls.length cs] 34) = w4 at *
    refine (Holds_any _ _ cls ts _ Hs4.out (RBools.stable.up H2.out Hb4.out)).mono ?_
    rintro e w4' ⟨rfl, rfl⟩
    by_cases hh : holdsI cls ts = -1
    case neg =>
      have hh' : (holdsI cls ts != (-1 : Int)) = true := by simp [hh]
      clear hh
      go_wp2_with (first
        | (go_at_call 10; refine (lives_any _).mono ?_; rintro e w5 ⟨rfl, hb5⟩))
      go_ret
      exact ⟨rfl, Hb4.out.trans (hb5.mono Hb4.out.size)⟩
    case pos =>
      have Hh := Lib.hid (Hholds.out.symm.trans hh)
      rw [hh]
      clear hh
      go_wp2_with (first
        | (go_at_call 15
           refine (Taken_any _ _ _ r items wss ts _ (RItems.stable.up H0.out Hb4.out) (RIntsss.stable.up H1.out Hb4.out) (RBools.stable.up H2.out Hb4.out)).mono ?_
           rintro e w2 ⟨v, l, rfl, htk, hv, hll, hb2⟩
           have hy0 := (hb2.cell (p := ⟨W.heap.size, 0, none⟩) hz4).trans hv0
           have hy1 := (hb2.cell (p := ⟨W.heap.size, 1, none⟩) hz4).trans hv1
           have hy2 := (hb2.cell (p := ⟨W.heap.size, 2, none⟩) hz4).trans hv2
           have Hr := Lib.hid (Hless.out l Hh.out htk)
           have Hea := Lib.hid (Heach.out l htk)
           have Hv := Lib.hid hv
           obtain ⟨Av, cv, rfl⟩ := hv.shape
           have Hb2 := Lib.hid (Hb4.out.trans (hb2.mono (Nat.le_of_lt hz4)))
           have hz2 : W.heap.size < w2.heap.size := Nat.lt_of_lt_of_le hz4 hb2.size
           clear htk hv hb2 hv0 hv1 hv2 Hb4 Hs4 hz4)
        | (go_at_call 17
           refine (Right_any _ _ _ r items wss l _ (RItems.stable.up H0.out Hb2.out) (RIntsss.stable.up H1.out Hb2.out) Hv.out).mono ?_
           rintro e w5 ⟨rfl, hb5⟩
           rw [Hr.out]
           have hx0 := (hb5.cell (p := ⟨W.heap.size, 0, none⟩) hz2).trans hy0
           have hx1 := (hb5.cell (p := ⟨W.heap.size, 1, none⟩) hz2).trans hy1
           have hx2 := (hb5.cell (p := ⟨W.heap.size, 2, none⟩) hz2).trans hy2
           have Hv5 := Lib.hid (RInts.stable.up Hv.out hb5)
           have Hb5 := Lib.hid (Hb2.out.trans (hb5.mono (Nat.le_of_lt hz2)))
           have hz5 : W.heap.size < w5.heap.size := Nat.lt_of_lt_of_le hz2 hb5.size
           clear hy0 hy1 hy2 hb5 Hv Hb2 hz2)
        | (go_at_call 18
           refine (refRight_any _ _ _ r items wss l _ (RItems.stable.up H0.out Hb5.out) (RIntsss.stable.up H1.out Hb5.out) Hv5.out).mono ?_
           rintro e w6 ⟨rfl, hb6⟩
           rw [Hr.out]
           have hu0 := (hb6.cell (p := ⟨W.heap.size, 0, none⟩) hz5).trans hx0
           have hu1 := (hb6.cell (p := ⟨W.heap.size, 1, none⟩) hz5).trans hx1
           have hu2 := (hb6.cell (p := ⟨W.heap.size, 2, none⟩) hz5).trans hx2
           have Hv6 := Lib.hid (RInts.stable.up Hv5.out hb6)
           have Hb6 := Lib.hid (Hb5.out.trans (hb6.mono (Nat.le_of_lt hz5)))
           have hz6 : W.heap.size < w6.heap.size := Nat.lt_of_lt_of_le hz5 hb6.size
           clear hx0 hx1 hx2 hb6 Hv5 Hb5 hz5))
      obtain ⟨A1', c1', e1, hm1, hat1⟩ := (RIntsss.stable.up H1.out Hb6.out).open_
      simp only [Value.slice.injEq] at e1
      obtain ⟨rfl, _, rfl⟩ := e1
      obtain ⟨Av', cv', ev, hmv, hatv⟩ := Hv6.out.open_
      simp only [Value.slice.injEq] at ev
      obtain ⟨rfl, _, rfl⟩ := ev
      have Hat1 := Lib.hid hat1
      have Hatv := Lib.hid hatv

      obtain ⟨A2', c2', e2, hm2, hat2⟩ := (RBools.stable.up H2.out Hb6.out).open_
      simp only [Value.slice.injEq] at e2
      obtain ⟨rfl, _, rfl⟩ := e2
      have Hat2 := Lib.hid hat2
      clear hat1 hatv hat2 H0 H1 H2 Hh Hholds Hless Heach Hr Hv6
      go_loopw [59] (fun sv wr => ∃ k : Nat, k ≤ l.length ∧ sv = .int .i64 k ∧ (∃ m, wr = w6.drewN m)) (fun sv _ => l.length - (intOf sv).toNat)
      case atStart => exact ⟨0, Nat.zero_le _, rfl, ⟨0, rfl⟩⟩
      case round =>
        obtain ⟨k, hkle, rfl, ⟨m, rfl⟩⟩ := hrel
        by_cases hklt : k < l.length
        · obtain ⟨bk, offk, uk, rfl, hbk, hcellk, huk⟩ := Hatv.out.lt_ hklt
          obtain rfl := huk
          obtain ⟨hn0, hn1, hn2, hn3⟩ := Hea.out _ (List.getElem_mem hklt)
          obtain ⟨n, hn⟩ : ∃ n, n = l[k] := ⟨_, rfl⟩
          rw [← hn] at hcellk hn0 hn1 hn2 hn3
          have Hw := Lib.hid hn2
          have hn4 := (tT_at hn3).1
          have Hn5 := Lib.hid ((tT_at hn3).2 hn4)
          clear hn hn2 hn3
          go_wp2
          go_loopw [69, 10] (fun sv bv wr => ∃ j : Nat, j ≤ l.length ∧ sv = .int .i64 j ∧ (∃ b, bv = .bool b ∧ Hid (b = (decide (n = r) || (l.take j).any fun m => (wantsAt wss m).any fun w => hasB w n))) ∧ (∃ m, wr = w6.drewN m)) (fun sv _ _ => l.length - (intOf sv).toNat)
          case atStart => exact ⟨0, Nat.zero_le _, rfl, ⟨_, rfl, by rw [Hid, List.take_zero, List.any_nil, Bool.or_false]; first | rfl | (rw [Bool.eq_iff_iff]; simp)⟩, ⟨_, rfl⟩⟩
          case round =>
            obtain ⟨j, hjle, rfl, ⟨b2, rfl, hb2⟩, ⟨m2, rfl⟩⟩ := hrel
            by_cases hjlt : j < l.length
            · obtain ⟨uj, hcellj, huj⟩ := Hatv.out.again hjlt
              obtain rfl := huj
              obtain ⟨hm0, hm1', _, _⟩ := Hea.out _ (List.getElem_mem hjlt)
              have Hs2 := Lib.hid (or_any_succ (b := decide (n = r)) (p := fun m => (wantsAt wss m).any fun w => hasB w n) hjlt)
              obtain ⟨mj, hmj⟩ : ∃ mj : Nat, l[j] = mj := ⟨l[j].toNat, by omega⟩
              rw [hmj] at Hs2 hcellj hm1'
              rw [Int.toNat_natCast] at hm1'
              clear hmj hm0
              obtain ⟨bw, offw, uw, rfl, hbw, hcellw, huw⟩ := Hat1.out.lt_ hm1'
              obtain ⟨A3, c3, rfl, hm3, hat3⟩ := huw.open_
              have Hat3 := Lib.hid hat3
              have Hwa := Lib.hid (show wantsAt wss (mj : Int) = wss[mj] from wantsAt_eq (by simpa using hm1'))
              clear hat3
              go_wp2
              go_loopw [79, 10] (fun sv bv wr => ∃ i : Nat, i ≤ (wss[mj]).length ∧ sv = .int .i64 i ∧ (∃ b, bv = .bool b ∧ Hid (b = (b2 || ((wss[mj]).take i).any fun w => hasB w n))) ∧ (∃ m, wr = w6.drewN m)) (fun sv _ _ => (wss[mj]).length - (intOf sv).toNat)
              case atStart => exact ⟨0, Nat.zero_le _, rfl, ⟨_, rfl, by rw [Hid, List.take_zero, List.any_nil, Bool.or_false]⟩, ⟨_, rfl⟩⟩
              case round =>
                obtain ⟨i, hile, rfl, ⟨b3, rfl, hb3⟩, ⟨m3, rfl⟩⟩ := hrel
                by_cases hilt : i < (wss[mj]).length
                · obtain ⟨bi, offi, ui, rfl, hbi, hcelli, hui⟩ := Hat3.out.lt_ hilt
                  obtain ⟨A4, c4, rfl, hm4, hat4⟩ := hui.open_
                  have Hat4 := Lib.hid hat4
                  have Hs3 := Lib.hid (or_any_succ (b := b2) (p := fun w => hasB w n) hilt)
                  clear hat4
                  go_wp2
                  go_loopw [85, 10] (fun sv bv wr => ∃ q : Nat, q ≤ (wss[mj][i]).length ∧ sv = .int .i64 q ∧ (∃ b, bv = .bool b ∧ Hid (b = (b3 || ((wss[mj][i]).take q).any fun y => y == n))) ∧ (∃ m, wr = w6.drewN m)) (fun sv _ _ => (wss[mj][i]).length - (intOf sv).toNat)
                  case atStart => exact ⟨0, Nat.zero_le _, rfl, ⟨_, rfl, by rw [Hid, List.take_zero, List.any_nil, Bool.or_false]⟩, ⟨_, rfl⟩⟩
                  case round =>
                    obtain ⟨q, hqle, rfl, ⟨b4, rfl, hb4⟩, ⟨m4, rfl⟩⟩ := hrel
                    by_cases hqlt : q < (wss[mj][i]).length
                    · obtain ⟨bq, offq, uq, rfl, hbq, hcellq, huq⟩ := Hat4.out.lt_ hqlt
                      obtain rfl := huq
                      have Hs4 := Lib.hid (or_any_succ (b := b3) (p := fun y => y == n) hqlt)
                      cases b4 with
                      | true =>
                        go_wp2
                        go_roundw
                        case rel => exact ⟨q + 1, by omega, by go_num, ⟨_, rfl, by rw [Hid, Hs4.out, ← hb4.out]; rfl⟩, ⟨_, rfl⟩⟩
                        case measure => simp [intOf]; omega
                      | false =>
                        go_wp2
                        go_roundw
                        case rel => exact ⟨q + 1, by omega, by go_num, ⟨_, rfl, by rw [Hid, Hs4.out, ← hb4.out]; rfl⟩, ⟨_, rfl⟩⟩
                        case measure => simp [intOf]; omega
                    · obtain rfl : q = (wss[mj][i]).length := by omega
                      rw [List.take_length, ← hasB_any] at hb4
                      go_wp2
                      go_roundw
                      case rel => exact ⟨i + 1, by omega, by go_num, ⟨_, rfl, by rw [Hid, Hs3.out, ← hb3.out]; exact hb4.out⟩, ⟨_, rfl⟩⟩
                      case measure => simp [intOf]; omega
                · obtain rfl : i = (wss[mj]).length := by omega
                  rw [List.take_length] at hb3
                  go_wp2
                  go_roundw
                  case rel => exact ⟨j + 1, by omega, by go_num, ⟨_, rfl, by rw [Hid, Hs2.out, ← hb2.out, Hwa.out]; exact hb3.out⟩, ⟨_, rfl⟩⟩
                  case measure => simp [intOf]; omega
            · obtain rfl : j = l.length := by omega
              rw [List.take_length] at hb2
              have hb2' : b2 = true := hb2.out.trans Hw.out
              obtain rfl := hb2'
              clear hb2
              obtain ⟨bt, offt, ut, rfl, hbt, hcellt, hut⟩ := Hat2.out.lt_ hn4
              obtain rfl := hut
              rw [Hn5.out] at hcellt
              go_wp2
              go_roundw
              case rel => exact ⟨k + 1, by omega, by go_num, ⟨_, rfl⟩⟩
              case measure => simp [intOf]; omega
        · obtain rfl : k = l.length := by omega
          go_wp2_with (first
            | (go_at_call 10; refine (lives_any _).mono ?_; rintro e w5 ⟨rfl, hb5⟩))
          go_ret
          exact ⟨rfl, (below_drewN Hb6.out m).trans (hb5.mono (by have := Hb6.out.size; simpa using this))⟩
end Go.Proofs.Ytlaihjhkghbfkaa
