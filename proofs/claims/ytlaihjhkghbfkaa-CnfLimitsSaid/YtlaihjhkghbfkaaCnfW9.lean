/- What is taken of a deal by truths: the reference's Taken, which goes round till nothing is new. -/
import Derived.Test.YtlaihjhkghbfkaaCnfW8
import Derived.Deep.LoopGhost
namespace Go.Proofs.Ytlaihjhkghbfkaa
open Go.RowKit

def wsN (wss : List (List (List Int))) (k : Nat) : List (List Int) := (wss[k]?).getD []
def wantK (met : List Bool) (wss : List (List (List Int))) (n k : Nat) : Bool := mB met k && (wsN wss k).any fun w => hasB w n
def wantU (met : List Bool) (wss : List (List (List Int))) (n r m : Nat) : Bool := ((n : Int) == (r : Int)) || (List.range m).any (wantK met wss n)
theorem wantU_succ (met : List Bool) (wss : List (List (List Int))) (n r m : Nat) : wantU met wss n r (m + 1) = (wantU met wss n r m || wantK met wss n m) := by
  simp [wantU, List.range_succ, Bool.or_assoc]
/-- What holds of met: all of it is met from the root. -/
def MetOk (n0 : Nat) (wss : List (List (List Int))) (t : List Bool) (r : Nat) (met : List Bool) : Prop := met.length = n0 ∧ ∀ x, mB met x = true → Rch wss t r x
/-- Nothing more is wanted, up to m. -/
def ShutUp (m n0 : Nat) (wss : List (List (List Int))) (t : List Bool) (r : Nat) (met : List Bool) : Prop := ∀ n, n < m → mB met n = false → tT t n = true → wantU met wss n r n0 = false
theorem rch_of_want {n0 : Nat} {wss : List (List (List Int))} {t : List Bool} {r n : Nat} {met : List Bool} (h : MetOk n0 wss t r met) (hlen : wss.length = n0) (ht : tT t n = true) (hw : wantU met wss n r n0 = true) : Rch wss t r n := by
  simp only [wantU, Bool.or_eq_true, beq_iff_eq, List.any_eq_true, List.mem_range, wantK, Bool.and_eq_true] at hw
  rcases hw with hw | ⟨k, hk, hm, w, hww, hn⟩
  · have : n = r := by omega
    subst this
    exact .root ht
  · have hkl : k < wss.length := by omega
    have hws : wsN wss k = wss[k] := by simp [wsN, hkl]
    rw [hws] at hww
    exact .step (h.2 k hm) hkl hww (hasB_iff.1 hn) ht
theorem MetOk.set_ {n0 : Nat} {wss : List (List (List Int))} {t : List Bool} {r n : Nat} {met : List Bool} (h : MetOk n0 wss t r met) (hn : n < n0) (hr : Rch wss t r n) : MetOk n0 wss t r (met.set n true) := by
  refine ⟨by simpa using h.1, fun x hx => ?_⟩
  rw [mB_set (by rw [h.1]; exact hn)] at hx
  by_cases hxn : x = n
  · subst hxn; exact hr
  · simp [hxn] at hx; exact h.2 x hx
theorem isMet_of_shut {n0 : Nat} {wss : List (List (List Int))} {t : List Bool} {r : Nat} {met : List Bool} (h : MetOk n0 wss t r met) (hv : validW n0 wss) (hlen : wss.length = n0) (hr : r < n0) (hs : ShutUp n0 n0 wss t r met) : IsMet n0 wss t r met := by
  refine ⟨h.1, fun x _ => ⟨h.2 x, fun hx => ?_⟩⟩
  have key : ∀ y, Rch wss t r y → mB met y = true := by
    intro y hy
    induction hy with
    | root ht =>
      cases hm : mB met r with
      | true => rfl
      | false =>
        have := hs r hr hm ht
        simp [wantU] at this
    | step hk hlt hw hn ht ih =>
      rename_i k n w
      cases hm : mB met n with
      | true => rfl
      | false =>
        have hn0 := (hv k hlt w hw _ hn).2
        have := hs n (by omega) hm ht
        simp only [wantU, Bool.or_eq_false_iff, List.any_eq_false, List.mem_range] at this
        have h2 := this.2 k (by omega)
        exact absurd (by simp only [wantK, ih, Bool.true_and, List.any_eq_true]; exact ⟨w, by simp [wsN, hlt]; exact hw, hasB_iff.2 hn⟩) h2
  exact key x hx

set_option maxRecDepth 100000 in
set_option maxHeartbeats 4000000 in
theorem refTaken_any (s0 s1 s2 : Value) (r : Int) (items : List ItemD) (wss : List (List (List Int))) (t : List Bool) (w : World) (h0 : RItems w (Lt w.heap.size) s0 items)
    (hw : RIntsss w (Lt w.heap.size) s1 wss) (ht : RBools w (Lt w.heap.size) s2 t) :
    Calls Try.prog 16 #[.agg #[s0, s1, .int .i64 r], s2] w (TakenPost items.length wss r t w) := by
  have Hw := Lib.hid hw
  obtain ⟨A0, c0, rfl, hm0, hat0⟩ := h0.open_
  obtain ⟨A1, c1, rfl, hm1, hat1⟩ := hw.open_
  obtain ⟨A2, c2, rfl, hm2, hat2⟩ := ht.open_
  clear h0 hw ht hat0
  have Hat1 := Lib.hid hat1; clear hat1
  have Hat2 := Lib.hid hat2; clear hat2
  by_cases hmay : mayN items.length r wss = 0
  case neg =>
    have hmay' : ((mayN items.length r wss : Nat) != (0 : Int)) = true := by simp; omega
    have Hmay := Lib.hid hmay
    clear hmay
    go_enter Try.func16, Try.ntmps16
    go_wp2_with (go_at_call 12; refine (refMay_any _ _ _ _ _ _ _ (RIntsss.stable.up Hw.out (below_alloc _ _))).mono ?_; rintro e w1 ⟨rfl, hb⟩)
    go_ret
    exact ⟨_, [], rfl, ⟨fun h => absurd h Hmay.out, fun _ => rfl⟩, RSl.nil_ _ _ _, Nat.zero_le _, (below_alloc _ _).trans (hb.mono (by simp))⟩
  case pos =>
  obtain ⟨hn0, hr, hlen, hbad⟩ := mayN_zero hmay
  obtain ⟨hr0, hr1⟩ := isItemB_iff.1 hr
  have hv := validW_of hbad
  have Hmay := Lib.hid hmay
  have hmay' : ((mayN items.length r wss : Nat) != (0 : Int)) = false := by simp [hmay]
  clear hmay hbad hr
  have Hlen := Lib.hid hlen; clear hlen
  have Hv := Lib.hid hv; clear hv
  obtain ⟨rn, hrn⟩ := Int.eq_ofNat_of_zero_le hr0
  subst hrn
  have hmk := run_makeN (P := Try.prog) (t := 40) (e := 4) (bytes := 1) (z := .bool false) Try.underlying40 (by kernel_rfl) (by omega) rfl items.length (by omega)
  go_enter Try.func16, Try.ntmps16
  go_wp2_with (go_at_call 12; refine (refMay_any _ _ _ _ _ _ _ (RIntsss.stable.up Hw.out (below_alloc _ _))).mono ?_; rintro e w1 ⟨rfl, hb⟩; obtain ⟨hx0, hx1, hx2⟩ := box3 hb; have hsz0 : w.heap.size < w1.heap.size := (by have := hb.size; simp at this; omega))
  have hbw : Below w.heap.size w w1 := (below_alloc _ _).trans (hb.mono (by simp))
  clear hb hmk
  have Hat1' := Lib.hid (Hat1.out.agree RIntss.stable (ag_of_below hbw) fun _ h => h)
  have Hat2' := Lib.hid (Hat2.out.agree RBool.stable (ag_of_below hbw) fun _ h => h)
  have Hbw := Lib.hid hbw; clear hbw Hat1 Hat2
  have Hrow0 := Lib.hid (show MetRow (w1.alloc (.cells (madeCells #[Value.bool false] items.length) 4)) w1.heap.size w1.heap.size items.length (List.replicate items.length false) by
    unfold MetRow; rw [List.map_replicate]; exact own_made w1 4 (.bool false) items.length (by omega))
  go_loopg [6] (items.length + 1) (fun k again wr => ∃ (met : List Bool) (ag : Bool), again = .bool ag ∧ Hid (MetRow wr w1.heap.size w1.heap.size items.length met ∧ MetOk items.length wss t rn met ∧ (ag = false → ShutUp items.length items.length wss t rn met) ∧ k = if ag then unmet met + 1 else 0) ∧ Below w1.heap.size w1 wr ∧ wr.heap.size = w1.heap.size + 1)
  case atStart =>
    refine ⟨List.replicate items.length false, true, rfl, ⟨Hrow0.out, ⟨by simp, fun x hx => ?_⟩, fun h => by simp at h, by simp [unmet]⟩, below_alloc _ _, by simp⟩
    unfold mB List.getD at hx; rw [List.getElem?_replicate] at hx; split at hx <;> simp at hx
  case round =>
    obtain ⟨met, ag, rfl, hinv, hbel, hsz1⟩ := hrel
    have Hbel := Lib.hid hbel
    have hb0 := (hbel.cell (p := ⟨w.heap.size, 0, none⟩) hsz0).trans hx0
    have hb1 := (hbel.cell (p := ⟨w.heap.size, 1, none⟩) hsz0).trans hx1
    have hb2 := (hbel.cell (p := ⟨w.heap.size, 2, none⟩) hsz0).trans hx2
    cases ag with
    | false =>
      obtain ⟨hrow, hok, hshut, _⟩ := hinv.out
      have Hmet := Lib.hid (isMet_of_shut hok Hv.out Hlen.out (by omega) (hshut rfl))
      have Hml := Lib.hid hok.1
      have Hrow := Lib.hid hrow
      have hszr : w1.heap.size < wr.heap.size := by omega
      clear hrow hok hshut hinv hbel
      obtain ⟨w2, rfl⟩ : ∃ w0 : World, w0 = wr := ⟨_, rfl⟩
      go_wp2
      go_loopw [87, 12] (fun sv out wr => ∃ k : Nat, k ≤ items.length ∧ sv = .int .i64 k ∧ Below w2.heap.size w2 wr ∧ wr.ownsRow w2.heap.size 3 1 out (trues (met.take k)).length ((trues (met.take k)).map (Value.int .i64))) (fun sv _ _ => items.length - (intOf sv).toNat)
      case atStart => exact ⟨0, Nat.zero_le _, rfl, Below.refl _ _, by simpa [trues, truesFrom] using World.ownsRow_nil _ _ _ _⟩
      case round =>
        obtain ⟨k, hkle, rfl, hbel, hown⟩ := hrel
        have Hbel2 := Lib.hid hbel
        have Hown := Lib.hid hown
        by_cases hklt : k < items.length
        · have hcell := (hbel.cell (p := ⟨w1.heap.size, k, none⟩) hszr).trans (Hrow.out.cell Hml.out hklt)
          have hkm : k < met.length := by rw [Hml.out]; exact hklt
          have Hs := Lib.hid (trues_succ hkm)
          have htl : (trues (met.take k)).length ≤ k := by have := trues_length_le (met.take k); simp at this; omega
          have hmk : mB met k = met[k] := by simp [mB, List.getD, hkm]
          clear hbel hown
          cases hmb : mB met k with
          | true =>
            rw [hmb] at hcell
            have Hs' := Lib.hid (show trues (met.take (k + 1)) = trues (met.take k) ++ [(k : Int)] by rw [Hs.out, ← hmk, hmb]; rfl)
            clear hmk hmb
            go_wp2_with (at_builtin; refine wpList_push rfl _ _ _ rfl eInt rfl (Hown.out.alloc _) wr.heap.size (.int .i64 k) rfl (by simp [go_sem]) rfl (by omega) (by have := Hbel2.out.size; simp; omega) ?_; intro v1 w3 hown1 hg1 hat1)
            go_roundw
            case rel =>
              refine ⟨k + 1, by omega, by go_num, ?_, ?_⟩
              · exact (Hbel2.out.alloc Hbel2.out.size _).grown hg1 (by have := Hbel2.out.size; simp; omega) (fun i hi => (Hown.out.lt i hi).1)
              · rw [Hs'.out, ← map_append_int, List.length_append]; exact hown1
            case measure => simp [intOf]; omega
          | false =>
            rw [hmb] at hcell
            have Hs' := Lib.hid (show trues (met.take (k + 1)) = trues (met.take k) by rw [Hs.out, ← hmk, hmb]; simp)
            clear hmk hmb
            go_wp2
            go_roundw
            case rel => exact ⟨k + 1, by omega, by go_num, Hbel2.out, by rw [Hs'.out]; exact Hown.out⟩
            case measure => simp [intOf]; omega
        · obtain rfl : k = items.length := by omega
          have hfull : met.take items.length = met := by rw [← Hml.out, List.take_length]
          have hn := trues_length_le met
          go_wp2
          go_ret
          refine ⟨_, trues met, rfl, ⟨fun _ => ⟨met, Hmet.out, rfl⟩, fun h => absurd Hmay.out h⟩, ?_, by rw [Hml.out] at hn; exact hn, (Hbw.out.trans (Hbel.out.mono (by omega))).trans (Hbel2.out.mono (by omega))⟩
          rw [hfull] at hown
          exact ints_of_own hown fun g hg => (hown.lt g hg).2
    | true =>
      have Hinv := Lib.hid hinv.out; clear hinv hbel
      go_wp2
      go_loopw [26, 6] (fun sv again wr => ∃ (n : Nat) (met2 : List Bool) (ag2 : Bool), n ≤ items.length ∧ sv = .int .i64 n ∧ again = .bool ag2 ∧ Hid (MetRow wr w1.heap.size w1.heap.size items.length met2 ∧ MetOk items.length wss t rn met2 ∧ (ag2 = true → unmet met2 < unmet met) ∧ (ag2 = false → met2 = met ∧ ShutUp n items.length wss t rn met)) ∧ Below w1.heap.size w1 wr ∧ wr.heap.size = w1.heap.size + 1) (fun sv _ _ => items.length - (intOf sv).toNat)
      case atStart => exact ⟨0, met, false, Nat.zero_le _, rfl, rfl, ⟨Hinv.out.1, Hinv.out.2.1, fun h => by simp at h, fun _ => ⟨rfl, fun n hn => by omega⟩⟩, Hbel.out, hsz1⟩
      case round =>
        obtain ⟨n, met2, ag2, hnle, rfl, rfl, hinv2, hbel2, hsz2⟩ := hrel
        by_cases hnlt : n < items.length
        · have hc0 := (hbel2.cell (p := ⟨w.heap.size, 0, none⟩) hsz0).trans hx0
          have hc1 := (hbel2.cell (p := ⟨w.heap.size, 1, none⟩) hsz0).trans hx1
          have hc2 := (hbel2.cell (p := ⟨w.heap.size, 2, none⟩) hsz0).trans hx2
          have hcell := hinv2.out.1.cell hinv2.out.2.1.1 hnlt
          have Hinv2 := Lib.hid hinv2.out
          have Hbel2 := Lib.hid hbel2
          clear hb0 hb1 hb2 hinv2 hbel2
          cases hmb : mB met2 n with
          | true =>
            rw [hmb] at hcell
            have Hmb := Lib.hid hmb; clear hmb
            go_wp2
            go_roundw
            case rel => exact ⟨n + 1, met2, ag2, by omega, by go_num, rfl, ⟨Hinv2.out.1, Hinv2.out.2.1, Hinv2.out.2.2.1, fun h => ⟨(Hinv2.out.2.2.2 h).1, fun x hx hm ht => by
              by_cases hxn : x = n
              · subst hxn; rw [← (Hinv2.out.2.2.2 h).1, Hmb.out] at hm; simp at hm
              · exact (Hinv2.out.2.2.2 h).2 x (by omega) hm ht⟩⟩, Hbel2.out, hsz2⟩
            case measure => simp [intOf]; omega
          | false =>
            rw [hmb] at hcell
            have Hmb := Lib.hid hmb; clear hmb
            have Hskip := Lib.hid (show tT t n = false → MetRow wr w1.heap.size w1.heap.size items.length met2 ∧ MetOk items.length wss t rn met2 ∧ (ag2 = true → unmet met2 < unmet met) ∧ (ag2 = false → met2 = met ∧ ShutUp (n + 1) items.length wss t rn met) from fun htf => ⟨Hinv2.out.1, Hinv2.out.2.1, Hinv2.out.2.2.1, fun h => ⟨(Hinv2.out.2.2.2 h).1, fun x hx hm ht => by
              by_cases hxn : x = n
              · subst hxn; rw [htf] at ht; simp at ht
              · exact (Hinv2.out.2.2.2 h).2 x (by omega) hm ht⟩⟩)
            by_cases htn : t.length ≤ n
            · have Htt := Lib.hid (show tT t n = false by simp [tT, List.getD, List.getElem?_eq_none htn])
              go_wp2
              go_roundw
              case rel => exact ⟨n + 1, met2, ag2, by omega, by go_num, rfl, Hskip.out Htt.out, Hbel2.out, hsz2⟩
              case measure => simp [intOf]; omega
            have htn' : n < t.length := by omega
            obtain ⟨bt, offt, ut, rfl, hbt, hcellt, hut⟩ := Hat2'.out.at_ RBool.stable (ag_of_below (Hbel2.out.mono (Nat.le_of_lt hsz0))) htn'
            obtain rfl := hut
            cases htv : t[n] with
            | false =>
              have Htt := Lib.hid (show tT t n = false by simp [tT, List.getD, htn', htv])
              rw [htv] at hcellt
              clear htv
              go_wp2
              go_roundw
              case rel => exact ⟨n + 1, met2, ag2, by omega, by go_num, rfl, Hskip.out Htt.out, Hbel2.out, hsz2⟩
              case measure => simp [intOf]; omega
            | true =>
              have Htt := Lib.hid (show tT t n = true by simp [tT, List.getD, htn', htv])
              rw [htv] at hcellt
              clear htv Hskip
              go_wp2
              have Hw2 := Lib.hid (Hat1'.out.agree RIntss.stable (ag_of_below (Hbel2.out.mono (Nat.le_of_lt hsz0))) fun _ h => h)
              go_loop [53, 8] (fun sv b => ∃ k : Nat, k ≤ items.length ∧ sv = .int .i64 k ∧ b = .bool (wantU met2 wss n rn k)) (fun sv _ => items.length - (intOf sv).toNat)
              case atStart => exact ⟨0, Nat.zero_le _, rfl, by simp [wantU]⟩
              case round =>
                obtain ⟨k, hkle, rfl, rfl⟩ := hrel
                by_cases hklt : k < items.length
                · have hklw : k < wss.length := by rw [Hlen.out]; exact hklt
                  obtain ⟨bw, offw, uw, rfl, hbw, hcellw, huw⟩ := Hw2.out.lt_ hklw
                  obtain ⟨A4, c4, rfl, hm4, hat4⟩ := huw.open_
                  have Hat4 := Lib.hid hat4; clear hat4
                  have Hwk := Lib.hid (show wsN wss k = wss[k] by simp [wsN, hklw])
                  have hcellk := Hinv2.out.1.cell Hinv2.out.2.1.1 hklt
                  go_wp2
                  go_loop [62, 8] (fun sv b => ∃ i : Nat, i ≤ (wss[k]).length ∧ sv = .int .i64 i ∧ b = .bool (wantU met2 wss n rn k || (mB met2 k && ((wss[k]).take i).any fun w => hasB w n))) (fun sv _ => (wss[k]).length - (intOf sv).toNat)
                  case atStart => exact ⟨0, Nat.zero_le _, rfl, by simp⟩
                  case round =>
                    obtain ⟨i, hile, rfl, rfl⟩ := hrel
                    by_cases hilt : i < (wss[k]).length
                    · obtain ⟨b5, off5, u5, rfl, hb5, hcell5, hu5⟩ := Hat4.out.lt_ hilt
                      have Hu5 := Lib.hid hu5
                      obtain ⟨A6, c6, rfl, _, _⟩ := hu5
                      have hs := any_take_succ (fun w => hasB w n) (wss[k]) i hilt
                      cases hb : (wantU met2 wss n rn k || (mB met2 k && ((wss[k]).take i).any fun w => hasB w n)) with
                      | true =>
                        have Hb := Lib.hid (show Value.bool true = .bool (wantU met2 wss n rn k || (mB met2 k && ((wss[k]).take (i + 1)).any fun w => hasB w n)) by
                          rw [hs]; congr 1
                          simp only [Bool.or_eq_true, Bool.and_eq_true] at hb
                          rcases hb with hb | ⟨h1, h2⟩
                          · simp [hb]
                          · simp [h1, h2])
                        clear hb hs
                        go_wp2
                        go_round
                        case rel => exact ⟨i + 1, by omega, by go_num, Hb.out⟩
                        case measure => simp [intOf]; omega
                      | false =>
                        simp only [Bool.or_eq_false_iff] at hb
                        cases hmk2 : mB met2 k with
                        | true =>
                          have Hb := Lib.hid (show Value.bool (hasB wss[k][i] (n : Int)) = .bool (wantU met2 wss n rn k || (true && ((wss[k]).take (i + 1)).any fun w => hasB w n)) by
                            rw [hs, hb.1]
                            have := hb.2
                            rw [hmk2, Bool.true_and] at this
                            rw [this]; rfl)
                          have hcellk' := hcellk
                          rw [hmk2] at hcellk'
                          clear hb hs hmk2 hcellk
                          go_wp2_with (go_at_call 25; refine (has_any _ _ _ _ Hu5.out).mono ?_; rintro e w2 ⟨rfl, rfl⟩)
                          go_round
                          case rel => exact ⟨i + 1, by omega, by go_num, Hb.out⟩
                          case measure => simp [intOf]; omega
                        | false =>
                          have Hb := Lib.hid (show Value.bool false = .bool (wantU met2 wss n rn k || (false && ((wss[k]).take (i + 1)).any fun w => hasB w n)) by rw [hb.1]; rfl)
                          have hcellk' := hcellk
                          rw [hmk2] at hcellk'
                          clear hb hs hmk2 hcellk
                          go_wp2
                          go_round
                          case rel => exact ⟨i + 1, by omega, by go_num, Hb.out⟩
                          case measure => simp [intOf]; omega
                    · obtain rfl : i = (wss[k]).length := by omega
                      have Hb := Lib.hid (show Value.bool (wantU met2 wss n rn k || (mB met2 k && ((wss[k]).take (wss[k]).length).any fun w => hasB w n)) = .bool (wantU met2 wss n rn (k + 1)) by
                        rw [List.take_length, wantU_succ, wantK, Hwk.out])
                      go_wp2
                      go_round
                      case rel => exact ⟨k + 1, by omega, by go_num, Hb.out⟩
                      case measure => simp [intOf]; omega
                · obtain rfl : k = items.length := by omega
                  cases hwant : wantU met2 wss n rn items.length with
                  | true =>
                    have Hwant := Lib.hid hwant; clear hwant
                    have hfz := Hinv2.out.1.frozen n
                    go_wp2
                    go_roundw
                    case rel =>
                      refine ⟨n + 1, met2.set n true, true, by omega, by go_num, rfl, ⟨Hinv2.out.1.set_ n true, Hinv2.out.2.1.set_ hnlt (rch_of_want Hinv2.out.2.1 Hlen.out Htt.out Hwant.out), fun _ => ?_, fun h => by simp at h⟩, Hbel2.out.setCell (p := ⟨w1.heap.size, n, none⟩) (Nat.le_refl w1.heap.size) _, by simp; omega⟩
                      have hu := unmet_set (by rw [Hinv2.out.2.1.1]; exact hnlt) Hmb.out
                      cases hag : ag2 with
                      | true => have := Hinv2.out.2.2.1 hag; omega
                      | false => rw [(Hinv2.out.2.2.2 hag).1] at hu ⊢; exact hu
                    case measure => simp [intOf]; omega
                  | false =>
                    have Hwant := Lib.hid hwant; clear hwant
                    go_wp2
                    go_roundw
                    case rel => exact ⟨n + 1, met2, ag2, by omega, by go_num, rfl, ⟨Hinv2.out.1, Hinv2.out.2.1, Hinv2.out.2.2.1, fun h => ⟨(Hinv2.out.2.2.2 h).1, fun x hx hm ht => by
                      by_cases hxn : x = n
                      · subst hxn; have := Hwant.out; rw [(Hinv2.out.2.2.2 h).1] at this; exact this
                      · exact (Hinv2.out.2.2.2 h).2 x (by omega) hm ht⟩⟩, Hbel2.out, hsz2⟩
                    case measure => simp [intOf]; omega
        · obtain rfl : n = items.length := by omega
          have Hinv2 := Lib.hid hinv2.out
          have Hbel2 := Lib.hid hbel2
          clear hb0 hb1 hb2 hinv2 hbel2
          go_wp2
          go_roundg (if ag2 then unmet met2 + 1 else 0)
          case measure =>
            have := Hinv.out.2.2.2
            simp only [if_true] at this
            cases hag : ag2 with
            | true => have h3 := Hinv2.out.2.2.1 hag; simp; omega
            | false => simp; omega
          case rel => exact ⟨met2, ag2, rfl, ⟨Hinv2.out.1, Hinv2.out.2.1, fun h => by have := Hinv2.out.2.2.2 h; rw [this.1]; exact this.2, rfl⟩, Hbel2.out, hsz2⟩
end Go.Proofs.Ytlaihjhkghbfkaa
