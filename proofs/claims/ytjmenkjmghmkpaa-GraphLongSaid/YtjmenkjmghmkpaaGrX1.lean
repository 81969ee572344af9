/- graph.Groups' closures: steps that go across from a group to another one are counted. -/
import Derived.Test.YtjmenkjmghmkpaaGrW7
import Derived.Test.YtjmenkjmghmkpaaGrF4
import Derived.Test.YtjmenkjmghmkpaaGrS3
import Derived.Deep.RegionLaw
namespace Go.Proofs.Ytjmenkjmghmkpaa
open Go.RowKit
open G22

/-- Nothing but block b0 is changed. -/
structure At1 (b0 : Nat) (w w' : World) : Prop where
  os : w'.os = w.os
  tape : w'.tape = w.tape
  output : w'.output = w.output
  size : w'.heap.size = w.heap.size
  block : ∀ b, b ≠ b0 → w'.heap[b]? = w.heap[b]?
theorem At1.refl (b0 : Nat) (w : World) : At1 b0 w w := ⟨rfl, rfl, rfl, rfl, fun _ _ => rfl⟩
theorem At1.trans {b0 : Nat} {a b c : World} (h : At1 b0 a b) (k : At1 b0 b c) : At1 b0 a c := ⟨k.os.trans h.os, k.tape.trans h.tape, k.output.trans h.output, k.size.trans h.size, fun i hi => (k.block i hi).trans (h.block i hi)⟩
theorem At1.drewN {b0 : Nat} {a b : World} (h : At1 b0 a b) (n : Nat) : At1 b0 a (b.drewN n) := ⟨h.os, h.tape, h.output, h.size, h.block⟩
theorem At1.ofDrewN {b0 n : Nat} {a b : World} (h : At1 b0 (a.drewN n) b) : At1 b0 a b := ⟨h.os, h.tape, h.output, h.size, h.block⟩
theorem at1_set (w : World) (b0 o : Nat) (u : Value) : At1 b0 w (w.setCell ⟨b0, o, none⟩ u) := ⟨rfl, rfl, rfl, by simp [World.setCell], fun b hb => Below.heap_setCell w ⟨b0, o, none⟩ u b hb⟩
theorem At1.cell {b0 : Nat} {a b : World} (h : At1 b0 a b) {p : Addr} (hp : p.block ≠ b0) : b.cell? p = a.cell? p := World.cell?_of_block (h.block _ hp)
theorem At1.ag {b0 : Nat} {S : Nat → Prop} {a b : World} (h : At1 b0 a b) (hs : ∀ i, S i → i ≠ b0) : Ag S a b := fun i hi => h.block i (hs i hi)
theorem At1.below {b0 B : Nat} {a b : World} (h : At1 b0 a b) (hB : B ≤ b0) : Below B a b := ⟨h.os, h.tape, h.output, Nat.le_of_eq h.size.symm, fun i hi => h.block i (by omega)⟩

def IncPost (bI : Nat) (into : List Nat) (b : Nat) (w : World) (e : Ending) (w' : World) : Prop :=
  e = .returned (.tuple #[]) ∧ VBlk w' bI 3 (nVs (into.set b (gN into b + 1))) ∧ At1 bI w w'
set_option maxHeartbeats 400000 in
theorem inc_any (b6 bI n : Nat) (a : Int) (b : Nat) (into : List Nat) (w : World) (h6 : w.cell? ⟨b6, 0, none⟩ = some (slN bI n)) (hV : VBlk w bI 3 (nVs into)) (hb : b < into.length) (hl : into.length = n) (hn : n ≤ 1000000) (hx : gN into b ≤ 1000000000000) :
    Calls Try.prog 35 #[.int .i64 a, .int .i64 (b : Int), .pointer (some ⟨b6, 0, none⟩)] w (IncPost bI into b w) := by
  subst hl
  have hc := hV.nat hb
  have hf := hV.frozen b
  have HS := Lib.hid (hV.setNat b (gN into b + 1))
  rw [Int.natCast_add, Int.cast_ofNat_Int] at HS
  clear hV
  go_enter Try.func35, Try.ntmps35
  go_wp2
  go_end0
  exact ⟨rfl, HS.out, at1_set _ _ _ _⟩
theorem cf35 (args : Array Value) (w : World) : (callFunc 35 args).run Try.prog w = .ok (.enter 35 args) w := callFunc_run (by exact Try.func35) (by decide +kernel) (by decide +kernel) args w
theorem cf34 (args : Array Value) (w : World) : (callFunc 34 args).run Try.prog w = .ok (.enter 34 args) w := callFunc_run (by exact Try.func34) (by decide +kernel) (by decide +kernel) args w
def AcrossPost (G : Gr) (grp : List Nat) (count bI : Nat) (w : World) (e : Ending) (w' : World) : Prop :=
  e = .returned (.tuple #[]) ∧ VBlk w' bI 3 (nVs (crossL G grp count G.length 0)) ∧ At1 bI w w'
set_option maxRecDepth 100000 in
set_option maxHeartbeats 2000000 in
theorem across_any (G : Gr) (grp : List Nat) (count B b1 b3 b6 bg bI cg : Nat) (Ag0 : Option Addr) (w : World) (hN : Nums G grp count) (hg : RNatss w (Lt B) (.slice Ag0 G.length cg) G) (hG : okG G) (h1 : w.cell? ⟨b1, 0, none⟩ = some (.slice Ag0 G.length cg)) (h3 : w.cell? ⟨b3, 0, none⟩ = some (slN bg G.length)) (h6 : w.cell? ⟨b6, 0, none⟩ = some (slN bI count))
    (hV : VBlk w bg 3 (nVs grp)) (hI : VBlk w bI 3 (nVs (List.replicate count 0))) (hne : b1 ≠ bI ∧ b3 ≠ bI ∧ b6 ≠ bI ∧ bg ≠ bI ∧ B ≤ bI) (hlen : G.length ≤ 100000) (hr : ∀ a, (row G a).length ≤ 100000) (hcl : count ≤ 100000) :
    Calls Try.prog 34 #[.func (.func 35) #[] #[.pointer (some ⟨b6, 0, none⟩)], .pointer (some ⟨b1, 0, none⟩), .pointer (some ⟨b3, 0, none⟩)] w (AcrossPost G grp count bI w) := by
  have HN := Lib.hid hN
  have HG := Lib.hid hG
  have Hr := Lib.hid hr
  have HV := Lib.hid hV
  obtain ⟨_, c, e, hm, hat⟩ := hg.open_
  cases e
  have Hat := Lib.hid hat
  rw [← crossL_first G grp count] at hI
  have HI := Lib.hid hI
  have Hne := Lib.hid hne
  have H1 := Lib.hid h1; have H3 := Lib.hid h3; have H6 := Lib.hid h6
  have hcf := cf35
  clear hN hG hr hV hI hat hne h3 h6 hg
  go_enter Try.func34, Try.ntmps34
  go_wp2
  go_loopw [10] (fun sv wr => ∃ n : Nat, n ≤ G.length ∧ sv = .int .i64 n ∧ Hid (VBlk wr bI 3 (nVs (crossL G grp count n 0))) ∧ Hid (At1 bI w wr)) (fun sv _ => G.length - (intOf sv).toNat)
  case atStart => exact ⟨0, Nat.zero_le _, rfl, HI.out, At1.refl _ _⟩
  case round =>
    obtain ⟨w1, rfl⟩ : ∃ w0 : World, w0 = wr := ⟨_, rfl⟩
    obtain ⟨n, hnle, rfl, HI1, HA1⟩ := hrel
    by_cases hnlt : n < G.length
    · obtain ⟨br, or, ur, rfl, hbr, hcr, hur⟩ := Hat.out.at_ RNats.stable (HA1.out.ag (S := Lt B) fun i hi => by have := Hne.out.2.2.2.2; have hi : i < B := hi; omega) hnlt
      obtain ⟨Ar, cr, rfl, hmr, hatr⟩ := hur.open_
      have Hatr := Lib.hid hatr
      clear hatr hur
      go_wp2
      go_loopw [17] (fun sv wr => ∃ j : Nat, j ≤ G[n].length ∧ sv = .int .i64 j ∧ Hid (VBlk wr bI 3 (nVs (crossL G grp count n j))) ∧ Hid (At1 bI w wr)) (fun sv _ => G[n].length - (intOf sv).toNat)
      case atStart => exact ⟨0, Nat.zero_le _, rfl, HI1.out, HA1.out⟩
      case round =>
        obtain ⟨w2, rfl⟩ : ∃ w0 : World, w0 = wr := ⟨_, rfl⟩
        obtain ⟨j, hjle, rfl, HI2, HA2⟩ := hrel
        by_cases hjlt : j < G[n].length
        · have hag : Ag (Lt B) w1 w2 := fun i hi => by
            have := Hne.out.2.2.2.2
            have hi : i < B := hi
            exact (HA2.out.block i (by omega)).trans (HA1.out.block i (by omega)).symm
          obtain ⟨b5, o5, u5, rfl, hb5, hc5, hu5⟩ := Hatr.out.at_ RNat.stable hag hjlt
          obtain rfl := hu5
          unfold natV at hc5
          have hrow : (row G n)[j]? = some G[n][j] := by rw [row_at hnlt]; exact List.getElem?_eq_getElem hjlt
          have hk : G[n][j] < G.length := HG.out n _ (by rw [row_at hnlt]; exact List.getElem_mem hjlt)
          have Hst := Lib.hid (crossL_step (grp := grp) (count := count) hrow)
          obtain ⟨k, hkk⟩ : ∃ k, k = G[n][j] := ⟨_, rfl⟩
          rw [← hkk] at hc5 hk Hst
          clear hrow hkk hag
          have h3 := (HA2.out.cell (p := ⟨b3, 0, none⟩) Hne.out.2.1).trans H3.out
          have hVn := (HV.out.ag (HA2.out.ag (S := fun i => i = bg) fun i e => by rw [e]; exact Hne.out.2.2.2.1) rfl).nat (i := n) (by rw [HN.out.len]; exact hnlt)
          have hVk := (HV.out.ag (HA2.out.ag (S := fun i => i = bg) fun i e => by rw [e]; exact Hne.out.2.2.2.1) rfl).nat (i := k) (by rw [HN.out.len]; exact hk)
          have hlt := HN.out.lt k hk
          by_cases he : gN grp n = gN grp k
          · have hd : ((gN grp n : Int) != (gN grp k : Int)) = false := by rw [he]; simp
            rw [if_pos he] at Hst
            clear he
            go_wp2
            go_quiet (fail)
            go_wp2
            go_roundw
            case rel => exact ⟨j + 1, by omega, by go_num, by rw [Hst.out]; exact HI2.out.drewN _, HA2.out.drewN _⟩
            case measure => simp [intOf]; omega
          · have hd : ((gN grp n : Int) != (gN grp k : Int)) = true := by simp; omega
            rw [if_neg he] at Hst
            clear he
            go_wp2
            go_quiet (fail)
            have HIq := Lib.hid (HI2.out.drewN nq)
            have HAq := Lib.hid (HA2.out.drewN nq)
            have h3' : (w2.drewN nq).cell? ⟨b3, 0, none⟩ = some (slN bg G.length) := h3
            have hVn' : (w2.drewN nq).cell? ⟨bg, n, none⟩ = some (.int .i64 (gN grp n : Int)) := hVn
            have hVk' : (w2.drewN nq).cell? ⟨bg, k, none⟩ = some (.int .i64 (gN grp k : Int)) := hVk
            clear h3 hVn hVk HI2 HA2
            generalize w2.drewN nq = w3 at *
            go_upto_region 7 with (fail)
            have Hinc := Lib.hid (inc_any b6 bI count (gN grp n) (gN grp k) (crossL G grp count n j) w3.drew ((HAq.out.cell (p := ⟨b6, 0, none⟩) Hne.out.2.2.1).trans H6.out) HIq.out (by rw [crossL_length]; exact hlt) (crossL_length _ _ _ _ _) (by omega) (by
              have h1 := gN_crossL_le (grp := grp) (n := n) (j := j) (c := gN grp k) (count := count) Hr.out
              have h2 : (n + 1) * 100000 ≤ 100001 * 100000 := Nat.mul_le_mul_right _ (by omega)
              omega))
            go_region_with (refine Hinc.out.mono ?_; rintro e w4 ⟨rfl, hI4, hA4⟩; have HI4 := Lib.hid hI4; have HA4 := Lib.hid hA4; clear hI4 hA4)
            all_goals
              go_wp2
              go_roundw
              case rel => exact ⟨j + 1, by omega, by go_num, by rw [Hst.out]; exact HI4.out, HAq.out.trans (⟨HA4.out.os, HA4.out.tape, HA4.out.output, HA4.out.size, HA4.out.block⟩ : At1 bI w3 w4)⟩
              case measure => simp [intOf]; omega
        · obtain rfl : j = G[n].length := by omega
          have HI3 := Lib.hid HI2.out
          rw [← row_at hnlt, crossL_end] at HI3
          clear HI2
          go_wp2
          go_roundw
          case rel => exact ⟨n + 1, by omega, by go_num, HI3.out, HA2.out⟩
          case measure => simp [intOf]; omega
    · obtain rfl : n = G.length := by omega
      go_wp2
      go_end0
      exact ⟨rfl, HI1.out, HA1.out⟩
end Go.Proofs.Ytjmenkjmghmkpaa
