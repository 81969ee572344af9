/- graph.Turned: a graph turned round. -/
import Derived.Test.YtjmenkjmghmkpaaGrW4
import Derived.Test.YtjmenkjmghmkpaaRowsO
namespace Go.Proofs.Ytjmenkjmghmkpaa
open Go.RowKit
open G22

def TurnPost (G : Gr) (w : World) (e : Ending) (w' : World) : Prop :=
  ∃ vs, e = .returned (.slice (some ⟨w.heap.size, 0, none⟩) G.length G.length) ∧ RowsO natV w' w.heap.size 25 3 vs (turnG G) ∧ Below w.heap.size w w'
theorem eRow : Elem1 Try.prog 22 25 24 := elem1_mk (z := .slice none 0 0) Try.underlying22 (by kernel_rfl) (by omega) rfl
theorem run_makeRows (n : Nat) (hn : n ≤ 1000000000000) (W : World) : (Instr.makeSlice 22 (.int .i64 (n : Int)) (.int .i64 (n : Int))).run Try.prog W = .ok (.slice (some ⟨W.heap.size, 0, none⟩) n n) (W.alloc (.cells (madeCells #[.slice none 0 0] n) 25)) :=
  run_makeN (P := Try.prog) (bytes := 24) (z := .slice none 0 0) Try.underlying22 (by kernel_rfl) (by omega) rfl n hn W
theorem run_makeInts (n : Nat) (hn : n ≤ 1000000000000) (W : World) : (Instr.makeSlice 25 (.int .i64 (n : Int)) (.int .i64 (n : Int))).run Try.prog W = .ok (.slice (some ⟨W.heap.size, 0, none⟩) n n) (W.alloc (.cells (madeCells #[.int .i64 0] n) 3)) :=
  run_makeN (P := Try.prog) (bytes := 8) (z := .int .i64 0) Try.underlying25 (by kernel_rfl) (by omega) rfl n hn W
set_option maxHeartbeats 400000 in
theorem Turned_no (s : Value) (g : List (List Int)) (w : World) {B : Nat} (hs : RIntss w (Lt B) s g) (h : mayG g = false) :
    Calls Try.prog 18 #[s] w fun e w' => e = .returned (.slice none 0 0) ∧ w = w' := by
  have Hs := Lib.hid hs
  have Hm := Lib.hid h
  clear h hs
  go_enter Try.func18, Try.ntmps18
  go_wp2_with (first
    | (go_at_call 12; refine (May_any _ _ _ Hs.out).mono ?_; rintro e w1 ⟨rfl, rfl⟩; rw [Hm.out]))
  go_ret
  exact ⟨rfl, rfl⟩
theorem turnTo_le {G : Gr} {n b : Nat} {m : Nat} (h : ∀ a, (row G a).length ≤ m) : (turnTo G n b).length ≤ n * m := by
  induction n with
  | zero => simp [turnTo]
  | succ n ih =>
    rw [turnTo_succ, List.length_append, List.length_replicate, Nat.succ_mul]
    have h1 := List.count_le_length (a := b) (l := row G n)
    have h2 := h n
    omega
theorem turnMid_le {G : Gr} {n j k : Nat} {m : Nat} {l : List Nat} (h : ∀ a, (row G a).length ≤ m) (hl : (turnMid G n j)[k]? = some l) : l.length ≤ (n + 1) * m := by
  have h1 := List.getElem?_eq_some_iff.1 hl
  obtain ⟨hk, e⟩ := h1
  rw [← e]
  simp only [turnMid, List.getElem_map, List.getElem_range, List.length_append, List.length_replicate]
  have h2 := turnTo_le (n := n) (b := k) h
  have h3 := List.count_le_length (a := k) (l := (row G n).take j)
  have h4 := List.length_take_le j (row G n)
  have h5 : ((row G n).take j).length ≤ (row G n).length := by simp; omega
  have h6 := h n
  rw [Nat.succ_mul]
  omega
set_option maxRecDepth 100000 in
set_option maxHeartbeats 2000000 in
theorem Turned_any (s : Value) (G : Gr) (w : World) (hs : RNatss w (Lt w.heap.size) s G) (hG : okG G) (hn : G.length ≤ 100000) (hr : ∀ a, (row G a).length ≤ 100000) :
    Calls Try.prog 18 #[s] w (TurnPost G w) := by
  have Hi := Lib.hid (intss_of_natss hs)
  have Hm := Lib.hid (mayG_of hG)
  have HG := Lib.hid hG
  have Hr := Lib.hid hr
  obtain ⟨A, c, rfl, hm, hat⟩ := hs.open_
  have Hat := Lib.hid hat; clear hat
  have hmk := run_makeRows G.length (by omega)
  clear hs hG hr
  go_enter Try.func18, Try.ntmps18
  go_wp2_with (first
    | (go_at_call 12; refine (May_any _ _ _ Hi.out).mono ?_; rintro e w1 ⟨rfl, rfl⟩; rw [Hm.out]))
  have HV0 := Lib.hid (RowsO.made w natV 25 3 G.length)
  rw [← turnMid_first] at HV0
  have HB0 := Lib.hid (below_alloc w (.cells (madeCells #[.slice none 0 0] G.length) 25))
  obtain ⟨D, hD⟩ : ∃ D, D = w.heap.size := ⟨_, rfl⟩
  rw [← hD] at HV0 HB0 Hat Hi ⊢
  have HD := Lib.hid hD
  clear hD hmk Hi Hm
  generalize w.alloc (.cells (madeCells #[.slice none 0 0] G.length) 25) = w0 at *
  go_loopw [16] (fun sv wr => ∃ (n : Nat) (vs : List Value), n ≤ G.length ∧ sv = .int .i64 n ∧ Hid (RowsO natV wr D 25 3 vs (turnMid G n 0)) ∧ Hid (Below D w wr)) (fun sv _ => G.length - (intOf sv).toNat)
  case atStart => exact ⟨0, _, Nat.zero_le _, rfl, HV0.out, HB0.out⟩
  case round =>
    obtain ⟨w3, rfl⟩ : ∃ w0 : World, w0 = wr := ⟨_, rfl⟩
    obtain ⟨n, vs, hnle, rfl, HV, HB⟩ := hrel
    by_cases hnlt : n < G.length
    · obtain ⟨br, or, ur, rfl, hbr, hcr0, hur⟩ := Hat.out.lt_ hnlt
      have hcr := (HB.out.cell (p := ⟨br, or + n, none⟩) hbr).trans hcr0
      obtain ⟨Ar, cr, rfl, hmr, hatr⟩ := hur.open_
      have Hatr := Lib.hid hatr
      clear hatr hur hcr0
      go_wp2
      go_loopw [23] (fun sv wr => ∃ (j : Nat) (vs : List Value), j ≤ G[n].length ∧ sv = .int .i64 j ∧ Hid (RowsO natV wr D 25 3 vs (turnMid G n j)) ∧ Hid (Below D w wr)) (fun sv _ => G[n].length - (intOf sv).toNat)
      case atStart => exact ⟨0, vs, Nat.zero_le _, rfl, HV.out, HB.out⟩
      case round =>
        obtain ⟨w5, rfl⟩ : ∃ w0 : World, w0 = wr := ⟨_, rfl⟩
        obtain ⟨j, vs5, hjle, rfl, HV5, HB5⟩ := hrel
        by_cases hjlt : j < G[n].length
        · obtain ⟨b6, o6, u6, rfl, hb6, hc6, hu6⟩ := Hatr.out.at_ RNat.stable (ag_of_below HB5.out) hjlt
          obtain rfl := hu6
          unfold natV at hc6
          have hed : G22.Edge G n G[n][j] := by unfold G22.Edge; rw [row_at hnlt]; exact List.getElem_mem hjlt
          have hk : G[n][j] < G.length := HG.out n _ hed
          have hkl : G[n][j] < (turnMid G n j).length := by rw [turnMid_length]; exact hk
          obtain ⟨At, ct, hvt, hct, Ht⟩ := HV5.out.row hkl
          have Hl := Lib.hid (List.getElem?_eq_getElem hkl)
          obtain ⟨l, hl⟩ : ∃ l, l = (turnMid G n j)[G[n][j]] := ⟨_, rfl⟩
          rw [← hl] at hct Ht hvt Hl
          have hlen : l.length ≤ 10000100000 := by
            have h1 := turnMid_le (m := 100000) Hr.out Hl.out
            omega
          have hDlt := HV5.out.blk.lt
          have hfrz := HV5.out.blk.frozen G[n][j]
          have Hown := Lib.hid Ht
          have Hvt := Lib.hid hvt
          have HDs := Lib.hid (show D ≤ w5.heap.size by omega)
          have Hne := Lib.hid (show some D ≠ (Value.slice At l.length ct).ownBlock from fun e => by have := (Ht.lt D e.symm).1; omega)
          have Hrow := Lib.hid (show (row G n)[j]? = some G[n][j] by rw [row_at hnlt]; exact List.getElem?_eq_getElem hjlt)
          clear hl hed hbr Ht hvt hDlt
          go_wp2_with (at_builtin; refine wpList_push rfl _ _ _ rfl eInt (v := .slice At l.length ct) rfl (Hown.out.alloc _) w5.heap.size (natV n) rfl (by simp [go_sem, natV]) rfl (by omega) (by simp; have := HDs.out; have := HV5.out.blk.lt; omega) ?_; intro v7 w7 hown7 hg7 hat7; obtain ⟨A7, c7, rfl⟩ := own_shape hown7; have hb7 := (HV5.out.blk.alloc _).grown hg7 Hne.out; have hc7 := hb7.cell Hvt.out; have hf7 := hb7.frozen G[n][j]; have Hg7 := Lib.hid hg7; have Hown7 := Lib.hid hown7; have Hat7 := Lib.hid hat7; clear hg7 hown7 hat7 hb7)
          have HV7 := Lib.hid (HV5.out.push Hvt.out Hl.out (fun i hi => Below.heap_alloc _ _ i hi) (by simp) Hg7.out Hown7.out Hat7.out)
          rw [turnMid_step Hrow.out Hl.out] at HV7
          have HB7 := Lib.hid (((HB5.out.alloc HDs.out _).grown Hg7.out (by have := HDs.out; simp; omega) (fun b hb => by have := (Hown.out.lt b hb).1; omega)).setCell (p := ⟨D, G[n][j], none⟩) (Nat.le_refl _) (.slice A7 (l.length + 1) c7))
          clear Hg7 Hown7 Hat7 hc7 hf7
          go_roundw
          case rel => exact ⟨j + 1, _, by omega, by go_num, HV7.out, HB7.out⟩
          case measure => simp [intOf]; omega
        · obtain rfl : j = G[n].length := by omega
          have HV7 := Lib.hid HV5.out
          rw [← row_at hnlt, turnMid_end] at HV7
          clear HV5
          go_wp2
          go_roundw
          case rel => exact ⟨n + 1, vs5, by omega, by go_num, HV7.out, HB5.out⟩
          case measure => simp [intOf]; omega
    · obtain rfl : n = G.length := by omega
      rw [turnMid_all] at HV
      go_wp2
      go_ret
      rw [HD.out] at HV HB ⊢
      exact ⟨vs, rfl, HV.out, HB.out⟩
end Go.Proofs.Ytjmenkjmghmkpaa
