/- What is taken of a deal by truths: the program's closure, which calls itself. -/
import Derived.Test.YtlaihjhkghbfkaaCnfTk
namespace Go.Proofs.Ytlaihjhkghbfkaa
open Go.RowKit

/-- The variables that the closure of Taken sees: blocks 5 (met), 3 (truths), 2 (the deal), 6 (itself); gm is met's row. -/
structure MeetEnv (gm b2 b3 b5 b6 n0 c1 c3 : Nat) (A1 A3 : Option Addr) (wss : List (List (List Int))) (t : List Bool) (W : World) : Prop where
  e5 : W.cell? ⟨b5, 0, none⟩ = some (.slice (some ⟨gm, 0, none⟩) n0 n0)
  e3 : W.cell? ⟨b3, 0, none⟩ = some (.slice A3 t.length c3)
  e2 : W.cell? ⟨b2, 1, none⟩ = some (.slice A1 wss.length c1)
  e6 : W.cell? ⟨b6, 0, none⟩ = some (.func (.func 24) #[] #[.pointer (some ⟨b5, 0, none⟩), .pointer (some ⟨b3, 0, none⟩), .pointer (some ⟨b2, 0, none⟩), .pointer (some ⟨b6, 0, none⟩)])
  rt : RAt RBool W (fun b => b ≠ gm) A3 t
  rw : RAt RIntss W (fun b => b ≠ gm) A1 wss
  ne5 : b5 ≠ gm
  ne3 : b3 ≠ gm
  ne2 : b2 ≠ gm
  ne6 : b6 ≠ gm
theorem MeetEnv.keep {gm b2 b3 b5 b6 n0 c1 c3 : Nat} {A1 A3 : Option Addr} {wss : List (List (List Int))} {t : List Bool} {W W' : World} (h : MeetEnv gm b2 b3 b5 b6 n0 c1 c3 A1 A3 wss t W) (ha : Ag (fun b => b ≠ gm) W W') :
    MeetEnv gm b2 b3 b5 b6 n0 c1 c3 A1 A3 wss t W' :=
  ⟨(ha.cell (p := ⟨b5, 0, none⟩) h.ne5).trans h.e5, (ha.cell (p := ⟨b3, 0, none⟩) h.ne3).trans h.e3, (ha.cell (p := ⟨b2, 1, none⟩) h.ne2).trans h.e2, (ha.cell (p := ⟨b6, 0, none⟩) h.ne6).trans h.e6,
    h.rt.agree RBool.stable ha (fun _ h => h), h.rw.agree RIntss.stable ha (fun _ h => h), h.ne5, h.ne3, h.ne2, h.ne6⟩
def MetRow (W : World) (base gm n0 : Nat) (met : List Bool) : Prop := W.ownsRow base 4 1 (.slice (some ⟨gm, 0, none⟩) n0 n0) n0 (met.map Value.bool)
theorem MetRow.cell {W : World} {base gm n0 : Nat} {met : List Bool} (h : MetRow W base gm n0 met) (hl : met.length = n0) {k : Nat} (hk : k < n0) : W.cell? ⟨gm, k, none⟩ = some (.bool (mB met k)) := by
  have := h.cellAt (g := gm) (cap := n0) k (by omega)
  rw [this, List.getElem?_map]
  subst hl
  simp [mB, List.getD, hk]
theorem MetRow.frozen {W : World} {base gm n0 : Nat} {met : List Bool} (h : MetRow W base gm n0 met) (k : Nat) : W.frozen? ⟨gm, k, none⟩ = false := h.frozenAt (g := gm) (cap := n0) k
theorem MetRow.set_ {W : World} {base gm n0 : Nat} {met : List Bool} (h : MetRow W base gm n0 met) (k : Nat) (b : Bool) : MetRow (W.setCell ⟨gm, k, none⟩ (.bool b)) base gm n0 (met.set k b) := by
  have := (h.stored (g := gm) (cap := n0) k (.bool b)).1
  unfold MetRow
  rwa [List.map_set]
/-- What one call of the closure does. -/
def MeetPost (wss : List (List (List Int))) (t : List Bool) (r base gm n0 n : Nat) (met : List Bool) (W : World) (e : Ending) (W' : World) : Prop :=
  e = .returned (.tuple #[]) ∧ ∃ met', Stp wss t r met met' ∧ (tT t n = true → mB met' n = true) ∧ MetRow W' base gm n0 met' ∧ Ag (fun b => b ≠ gm) W W' ∧ Below gm W W' ∧ W'.heap.size = W.heap.size

def MeetRel (wss : List (List (List Int))) (t : List Bool) (r base gm n0 : Nat) (met1 : List Bool) (W W1 : World) (done : Nat → Prop) (wr : World) : Prop :=
  ∃ met2, Stp wss t r met1 met2 ∧ MetRow wr base gm n0 met2 ∧ Ag (fun b => b ≠ gm) W1 wr ∧ Below gm W wr ∧ wr.heap.size = W.heap.size ∧ ∀ k, done k → tT t k = true → k < n0 → mB met2 k = true
theorem MeetRel.imp {wss : List (List (List Int))} {t : List Bool} {r base gm n0 : Nat} {met1 : List Bool} {W W1 wr : World} {d d' : Nat → Prop} (h : MeetRel wss t r base gm n0 met1 W W1 d wr) (hd : ∀ k, d' k → d k) : MeetRel wss t r base gm n0 met1 W W1 d' wr := by
  obtain ⟨met2, h1, h2, h3, h4, h5, h6⟩ := h
  exact ⟨met2, h1, h2, h3, h4, h5, fun k hk => h6 k (hd k hk)⟩

set_option maxRecDepth 100000 in
set_option maxHeartbeats 2000000 in
theorem meet_any (base gm b2 b3 b5 b6 n0 c1 c3 : Nat) (A1 A3 : Option Addr) (wss : List (List (List Int))) (t : List Bool) (r : Nat) (hlen : wss.length = n0) (hv : validW n0 wss) (_hn0 : n0 ≤ 1024) (_htl : t.length ≤ 9223372036854775807) (m : Nat) :
    ∀ (met : List Bool) (n : Nat) (W : World), unmet met < m → met.length = n0 → n < n0 → (tT t n = true → Rch wss t r n) → MeetEnv gm b2 b3 b5 b6 n0 c1 c3 A1 A3 wss t W → MetRow W base gm n0 met →
      Calls Try.prog 24 #[.int .i64 (n : Int), .pointer (some ⟨b5, 0, none⟩), .pointer (some ⟨b3, 0, none⟩), .pointer (some ⟨b2, 0, none⟩), .pointer (some ⟨b6, 0, none⟩)] W (MeetPost wss t r base gm n0 n met W) := by
  induction m with
  | zero => intro met n W h; omega
  | succ m ih =>
    intro met n W hm hl hn hrch henv hrow
    have IH := Lib.hid ih
    have Hrch := Lib.hid hrch
    have Henv := Lib.hid henv
    have Hrow := Lib.hid hrow
    have Hm := Lib.hid hm
    have Hl := Lib.hid hl
    have Hlen := Lib.hid hlen
    have Hv := Lib.hid hv
    have he5 := henv.e5; have he3 := henv.e3; have he2 := henv.e2; have he6 := henv.e6
    have hc := hrow.cell hl hn
    have hfz := hrow.frozen n
    clear ih hrch henv hrow hm hl hlen hv
    cases hmet : mB met n with
    | true =>
      have Hpost : ∀ K : World → World → Prop, True := fun _ => trivial
      have Hfin := Lib.hid (show MeetPost wss t r base gm n0 n met W (.returned (.tuple #[])) W from ⟨rfl, met, Stp.refl _ _ _ _, fun _ => hmet, Hrow.out, Ag.refl _ _, Below.refl _ _, rfl⟩)
      rw [hmet] at hc
      clear hmet Hpost
      go_enter Try.func24, Try.ntmps24
      go_wp2
      refine bodyPost_ret (results_none rfl _ _ _) rfl ?_
      exact Hfin.out
    | false =>
      rw [hmet] at hc
      have Hmet := Lib.hid hmet; clear hmet
      by_cases htn : t.length ≤ n
      · have htt : tT t n = false := by simp [tT, List.getD, List.getElem?_eq_none htn]
        have Hfin := Lib.hid (show MeetPost wss t r base gm n0 n met W (.returned (.tuple #[])) W from ⟨rfl, met, Stp.refl _ _ _ _, fun h => by simp [htt] at h, Hrow.out, Ag.refl _ _, Below.refl _ _, rfl⟩)
        clear htt
        go_enter Try.func24, Try.ntmps24
        go_wp2
        refine bodyPost_ret (results_none rfl _ _ _) rfl ?_
        exact Hfin.out
      have htn' : n < t.length := by omega
      obtain ⟨bt, offt, ut, rfl, hbt, hcellt, hut⟩ := Henv.out.rt.at_ RBool.stable (Ag.refl _ _) htn'
      obtain rfl := hut
      cases htv : t[n] with
      | false =>
        have htt : tT t n = false := by simp [tT, List.getD, htn', htv]
        have Hfin := Lib.hid (show MeetPost wss t r base gm n0 n met W (.returned (.tuple #[])) W from ⟨rfl, met, Stp.refl _ _ _ _, fun h => by simp [htt] at h, Hrow.out, Ag.refl _ _, Below.refl _ _, rfl⟩)
        rw [htv] at hcellt
        clear htt htv
        go_enter Try.func24, Try.ntmps24
        go_wp2
        refine bodyPost_ret (results_none rfl _ _ _) rfl ?_
        exact Hfin.out
      | true =>
        have htt : tT t n = true := by simp [tT, List.getD, htn', htv]
        have Htt := Lib.hid htt
        rw [htv] at hcellt
        clear htt htv
        have Henv1 := Lib.hid (Henv.out.keep (ag_setCell W ⟨gm, n, none⟩ (.bool true)))
        have Hrow1 := Lib.hid (Hrow.out.set_ n true)
        have hnw : n < wss.length := by rw [Hlen.out]; exact hn
        obtain ⟨bw, offw, uw, rfl, hbw, hcellw, huw⟩ := Henv1.out.rw.at_ RIntss.stable (Ag.refl _ _) hnw
        obtain ⟨A4, c4, rfl, hm4, hat4⟩ := huw.open_
        have Hat4 := Lib.hid hat4; clear hat4
        have he2' := Henv1.out.e2
        go_enter Try.func24, Try.ntmps24
        go_wp2
        have hstart : MeetRel wss t r base gm n0 (met.set n true) W (W.setCell ⟨gm, n, none⟩ (.bool true)) (fun k => ∃ w ∈ wss[n].take 0, (k : Int) ∈ w) (W.setCell ⟨gm, n, none⟩ (.bool true)) :=
          ⟨_, Stp.refl _ _ _ _, Hrow1.out, Ag.refl _ _, (Below.refl gm W).setCell (p := ⟨gm, n, none⟩) (Nat.le_refl gm) _, by simp, fun k hk => by simp at hk⟩
        have Hstart := Lib.hid hstart; clear hstart
        go_loopw [36] (fun sv wr => ∃ i : Nat, i ≤ (wss[n]).length ∧ sv = .int .i64 i ∧ Hid (MeetRel wss t r base gm n0 (met.set n true) W (W.setCell ⟨gm, n, none⟩ (.bool true)) (fun k => ∃ w ∈ wss[n].take i, (k : Int) ∈ w) wr)) (fun sv _ => (wss[n]).length - (intOf sv).toNat)
        case atStart => exact ⟨0, Nat.zero_le _, rfl, Hstart⟩
        case round =>
          obtain ⟨i, hile, rfl, hirel⟩ := hrel
          by_cases hilt : i < (wss[n]).length
          · obtain ⟨_, _, _, hagi, _, _, _⟩ := hirel.out
            obtain ⟨b5', off5', u5, rfl, hb5, hcell5, hu5⟩ := Hat4.out.at_ RInts.stable hagi hilt
            obtain ⟨A6, c6, rfl, hm6, hat6⟩ := hu5.open_
            have Hat6 := Lib.hid hat6; clear hat6
            have Hagi := Lib.hid hagi; clear hagi
            obtain ⟨wi, rfl⟩ : ∃ w0 : World, w0 = wr := ⟨_, rfl⟩
            go_wp2
            go_loopw [42] (fun sv wr => ∃ j : Nat, j ≤ (wss[n][i]).length ∧ sv = .int .i64 j ∧ Ag (fun b => b ≠ gm) wi wr ∧ Hid (MeetRel wss t r base gm n0 (met.set n true) W (W.setCell ⟨gm, n, none⟩ (.bool true)) (fun k => (∃ w ∈ wss[n].take i, (k : Int) ∈ w) ∨ (k : Int) ∈ wss[n][i].take j) wr)) (fun sv _ => (wss[n][i]).length - (intOf sv).toNat)
            case atStart => exact ⟨0, Nat.zero_le _, rfl, Ag.refl _ _, hirel.out.imp fun k hk => by simpa using hk⟩
            case round =>
              obtain ⟨j, hjle, rfl, hagj, hjrel⟩ := hrel
              by_cases hjlt : j < (wss[n][i]).length
              · obtain ⟨b6', off6', u6, rfl, hb6, hcell6, hu6⟩ := Hat6.out.at_ RInt.stable hagj hjlt
                obtain rfl := hu6
                have hmem1 : wss[n][i] ∈ wss[n] := List.getElem_mem hilt
                have hmem2 : wss[n][i][j] ∈ wss[n][i] := List.getElem_mem hjlt
                have hval := Hv.out n hnw _ hmem1 _ hmem2
                obtain ⟨kk, hkk⟩ := Int.eq_ofNat_of_zero_le hval.1
                rw [hkk] at hcell6
                obtain ⟨met2, hstp, hrow2, hag2, hbel2, hsz2, hdone2⟩ := hjrel.out
                have he6' := (hag2.cell (p := ⟨b6, 0, none⟩) Henv.out.ne6).trans Henv1.out.e6
                have hcall := IH.out met2 kk wr (by
                    have h1 := unmet_le_of_more hstp.len hstp.more
                    have h2 := unmet_set (by rw [Hl.out]; exact hn) Hmet.out
                    have h3 := Hm.out
                    omega) (by rw [hstp.len]; simpa using Hl.out) (by omega)
                  (fun ht => Rch.step (Hrch.out Htt.out) hnw hmem1 (by rw [← hkk]; exact hmem2) ht) (Henv1.out.keep hag2) hrow2
                have Hcall := Lib.hid hcall
                have Hinfo := Lib.hid (show Stp wss t r (met.set n true) met2 ∧ MetRow wr base gm n0 met2 ∧ Ag (fun b => b ≠ gm) (W.setCell ⟨gm, n, none⟩ (.bool true)) wr ∧ Below gm W wr ∧ wr.heap.size = W.heap.size ∧ ∀ k : Nat, ((∃ w ∈ wss[n].take i, (k : Int) ∈ w) ∨ (k : Int) ∈ wss[n][i].take j) → tT t k = true → k < n0 → mB met2 k = true from ⟨hstp, hrow2, hag2, hbel2, hsz2, hdone2⟩)
                have Hkk := Lib.hid hkk
                have Hagj := Lib.hid hagj
                clear hcall hstp hrow2 hag2 hbel2 hsz2 hdone2 hkk hval hmem1 hmem2 hjrel hagj
                go_wp2_with (go_at_call 24; refine Hcall.out.mono ?_; rintro e w2 ⟨rfl, hpost⟩)
                go_roundw
                case rel =>
                  obtain ⟨met3, h1, h2, h3, h4, h5, h6⟩ := hpost
                  obtain ⟨g1, g2, g3, g4, g5, g6⟩ := Hinfo.out
                  refine ⟨j + 1, by omega, by go_num, Hagj.out.trans h4, met3, g1.trans h1, h3, g3.trans h4, g4.trans h5, h6.trans g5, fun k hk ht hk0 => ?_⟩
                  rcases hk with hk | hk
                  · exact h1.more k (g6 k (.inl hk) ht hk0)
                  · rw [List.take_succ_eq_append_getElem hjlt, List.mem_append] at hk
                    rcases hk with hk | hk
                    · exact h1.more k (g6 k (.inr hk) ht hk0)
                    · rw [Hkk.out] at hk
                      have : k = kk := by simp at hk; omega
                      subst this
                      exact h2 ht
                case measure => simp [intOf]; omega
              · obtain rfl : j = (wss[n][i]).length := by omega
                have Hagj := Lib.hid hagj; clear hagj
                go_wp2
                go_roundw
                case rel => exact ⟨i + 1, by omega, by go_num, hjrel.out.imp fun k hk => by
                  obtain ⟨w, hw, hkw⟩ := hk
                  rw [List.take_succ_eq_append_getElem hilt, List.mem_append] at hw
                  rcases hw with hw | hw
                  · exact .inl ⟨w, hw, hkw⟩
                  · simp at hw; subst hw; exact .inr (by simpa using hkw)⟩
                case measure => simp [intOf]; omega
          · obtain rfl : i = (wss[n]).length := by omega
            go_wp2
            go_end0
            obtain ⟨met2, h1, h2, h3, h4, h5, h6⟩ := hirel.out
            have hnl : n < met.length := by rw [Hl.out]; exact hn
            refine ⟨rfl, met2, Stp.node hnl (Hrch.out Htt.out) h1 (fun hlt w hw k hk ht hkl => h6 k ⟨w, by simpa using hw, hk⟩ ht (by rw [← Hl.out]; exact hkl)), fun _ => h1.more n (by rw [mB_set hnl]; simp), h2, ?_, h4, h5⟩
            exact (ag_setCell W ⟨gm, n, none⟩ (.bool true)).trans h3
end Go.Proofs.Ytlaihjhkghbfkaa
