/- What Grow of the layer trim computes. -/
import Derived.Test.YtdofiipckcfopaaFnDelF
import Derived.Laws.CopyOwn
namespace Go.Proofs.Ytdofiipckcfopaa
open Go.RowKit

/-- Truths of so many variables. -/
def padT (n : Nat) (ts : List Bool) : List Bool := ts.take n ++ List.replicate (n - (ts.take n).length) false
def setT (o : List Bool) (n : Int) : List Bool := if 1 ≤ n.natAbs ∧ n.natAbs ≤ o.length then o.set (n.natAbs - 1) (decide (0 < n)) else o
def growT (n : Nat) (F : List Int) (ts : List Bool) : List Bool := F.foldl setT (padT n ts)
theorem padT_length (n : Nat) (ts : List Bool) : (padT n ts).length = n := by simp [padT]; omega
theorem setT_length (o : List Bool) (n : Int) : (setT o n).length = o.length := by unfold setT; split <;> simp
theorem foldT_length (F : List Int) : ∀ o, (F.foldl setT o).length = o.length := by
  induction F with
  | nil => intro o; rfl
  | cons n F ih => intro o; rw [List.foldl_cons, ih, setT_length]
theorem growT_length (n : Nat) (F : List Int) (ts : List Bool) : (growT n F ts).length = n := by rw [growT, foldT_length, padT_length]
theorem foldT_succ {F : List Int} {k : Nat} (h : k < F.length) (o : List Bool) : (F.take (k + 1)).foldl setT o = setT ((F.take k).foldl setT o) F[k] := by
  rw [List.take_succ_eq_append_getElem h, List.foldl_append]; rfl
abbrev Over0 (w w' : World) : Nat → Prop := fun b => w.heap.size ≤ b ∧ b < w'.heap.size
theorem rat_cells' {α : Type} {R : Rd α} {f : α → Value} (hR : ∀ w S u x, R w S u x → u = f x) {w : World} {S : Nat → Prop} {A : Option Addr} {l : List α} (h : RAt R w S A l) (hl : 0 < l.length) : ∃ ad, A = some ad ∧ ∀ j u, (l.map f)[j]? = some u → w.cell? (ad.add j) = some u := by
  obtain ⟨b, off, e, _⟩ := h hl
  subst e
  exact ⟨_, rfl, rat_cells hR h⟩
def GrowPost (n : Nat) (F : List Int) (ts : List Bool) (w : World) (e : Ending) (w' : World) : Prop := ∃ v, e = .returned v ∧ RBools w' (Over0 w w') v (growT n F ts) ∧ Below w.heap.size w w'
set_option maxRecDepth 100000 in
set_option maxHeartbeats 2000000 in
theorem Grow_any (v : Int) (vC s1 s2 : Value) (F : List Int) (ts : List Bool) (w : World) (h1 : RInts w (Lt w.heap.size) s1 F) (h2 : RBools w (Lt w.heap.size) s2 ts) (hvC : ∃ A n c, vC = .slice A n c) (hv : v ≤ 1024) (hF : ∀ x ∈ F, -1024 ≤ x ∧ x ≤ 1024) :
    Calls Try.prog 14 #[.agg #[.int .i64 v, vC, s1], s2] w (GrowPost v.toNat F ts w) := by
  obtain ⟨A0, n0, c0, rfl⟩ := hvC
  obtain ⟨A1, c1, rfl, hm1, hat1⟩ := h1.open_
  obtain ⟨A2, c2, rfl, hm2, hat2⟩ := h2.open_
  obtain ⟨n, hn⟩ : ∃ n : Nat, n = v.toNat := ⟨_, rfl⟩
  rw [← hn]
  have hn1 : n ≤ 1024 := by omega
  have hb := below_alloc w (.cells #[.int .i64 v, .slice A0 n0 c0, .slice A1 F.length c1] 29)
  have hmk := run_makeN (P := Try.prog) (t := 40) (e := 4) (bytes := 1) (z := .bool false) Try.underlying40 (by kernel_rfl) (by omega) rfl n (by omega) (w.alloc (.cells #[.int .i64 v, .slice A0 n0 c0, .slice A1 F.length c1] 29))
  have Hat1 := Lib.hid hat1
  have Hc := Lib.hid (rat_cells' (f := Value.bool) (fun _ _ _ _ h => h) hat2)
  have HF := Lib.hid hF
  clear h1 h2 hat1 hat2 hF
  have hmx : (if 0 > v then (0 : Int) else v) = (n : Int) := by split <;> omega
  have Hn := Lib.hid hn; clear hn
  obtain ⟨W2, hW2⟩ : ∃ W2, W2 = (w.alloc (.cells #[.int .i64 v, .slice A0 n0 c0, .slice A1 F.length c1] 29)).alloc (.cells (madeCells #[.bool false] n) 4) := ⟨_, rfl⟩
  have hmade : madeCells #[Value.bool false] n = (List.replicate n (Value.bool false)).toArray := by rw [← toList_madeCells_one]
  have hg2 : W2.heap[w.heap.size + 1]? = some (.cells (List.replicate n (Value.bool false)).toArray 4 (0, 0)) := by rw [hW2, hmade]; exact heap_new (by simp)
  have hbW : Below w.heap.size w W2 := by rw [hW2]; exact hb.alloc (by simp) _
  have hbx : W2.cell? ⟨w.heap.size, 0, none⟩ = some (.int .i64 v) ∧ W2.cell? ⟨w.heap.size, 1, none⟩ = some (.slice A0 n0 c0) ∧ W2.cell? ⟨w.heap.size, 2, none⟩ = some (.slice A1 F.length c1) := by rw [hW2]; simp [go_sem]
  have hWs : W2.heap.size = w.heap.size + 1 + 1 := by rw [hW2]; simp
  obtain ⟨cs, hcs⟩ : ∃ cs, cs = (ts.take n).map Value.bool := ⟨_, rfl⟩
  have Hlen : Hid (cs.length = Nat.min ts.length n) := by rw [Hid, hcs]; simp [Nat.min_comm]
  have Hfit : Hid (0 + cs.length ≤ (List.replicate n (Value.bool false)).length) := by rw [Hid, hcs]; simp; omega
  have Hone : Hid (∀ u ∈ cs, u.oneCell' = true) := by
    intro u hu
    rw [hcs] at hu
    obtain ⟨x, _, rfl⟩ := List.mem_map.1 hu
    rfl
  have Hpos : Hid (0 < cs.length → (some ⟨w.heap.size + 1, 0, none⟩ : Option Addr) = some ⟨w.heap.size + 1, 0, none⟩ ∧ ∃ ad, A2 = some ad ∧ ∀ j u, cs[j]? = some u → W2.cell? (ad.add j) = some u) := by
    intro hp
    rw [hcs] at hp
    obtain ⟨ad, e, hc⟩ := Hc.out (by simp at hp; omega)
    refine ⟨rfl, ad, e, fun j u hu => ?_⟩
    have hu' : (ts.map Value.bool)[j]? = some u := by
      rw [hcs, List.map_take, List.getElem?_take] at hu
      split at hu
      · exact hu
      · cases hu
    have h1 := hc j u hu'
    exact (hbW.cell (World.block_lt_of_cell? w _ h1)).trans h1
  have Hcs := Lib.hid hcs
  have HgW := Lib.hid hg2
  have HbW := Lib.hid hbW
  have HW2 := Lib.hid hW2
  have Hbx := Lib.hid hbx
  have HWs := Lib.hid hWs
  clear hcs hg2 hbW hbx hW2 hWs hmade
  go_enter Try.func14, Try.ntmps14
  go_wp2_with (
    rw [← HW2.out]
    with_reducible refine wpList_copy_splice rfl (.tmp 14) (.tmp 15) 40 40 rfl 4 Try.underlying40 (by kernel_rfl) (some ⟨w.heap.size + 1, 0, none⟩) A2 n n ts.length c2 rfl rfl (w.heap.size + 1) 0 (List.replicate n (Value.bool false)) 4 HgW.out cs Hlen.out Hpos.out Hfit.out Hone.out (w.heap.size + 1) W2 (Below.refl _ _) (Nat.le_refl _) ?_
    intro w3 hh hb3
    have hx0 := (hb3.cell (p := ⟨w.heap.size, 0, none⟩) (Nat.lt_succ_self _)).trans Hbx.out.1
    have hx2 := (hb3.cell (p := ⟨w.heap.size, 2, none⟩) (Nat.lt_succ_self _)).trans Hbx.out.2.2
    have Hb3 := Lib.hid hb3
    clear hb3)
  have Hrow0 : Hid (w3.ownsRow (w.heap.size + 1) 4 1 (.slice (some ⟨w.heap.size + 1, 0, none⟩) n n) n (((F.take 0).foldl setT (padT n ts)).map Value.bool)) := by
    refine ⟨by simp [padT_length], .inr ⟨_, n, _, rfl, Nat.le_refl _, hh.out, Nat.le_refl _, by unfold maxLen; omega, ?_, ?_⟩⟩
    · have := Hfit.out; rw [Hcs.out] at this ⊢; simp [splice] at this ⊢; omega
    · rw [Hcs.out]
      simp only [splice, List.take_zero, List.foldl_nil, List.nil_append, Nat.zero_add, padT, List.map_append, List.map_replicate, List.length_map, List.drop_replicate, Nat.mul_one]
      exact List.take_of_length_le (by simp; omega)
  clear hh HgW Hlen Hpos Hfit Hone Hcs Hbx Hc
  go_loopw [20] (fun sv wr => ∃ k : Nat, k ≤ F.length ∧ sv = .int .i64 k ∧ Hid (Below (w.heap.size + 1) w3 wr ∧ wr.ownsRow (w.heap.size + 1) 4 1 (.slice (some ⟨w.heap.size + 1, 0, none⟩) n n) n (((F.take k).foldl setT (padT n ts)).map Value.bool))) (fun sv _ => F.length - (intOf sv).toNat)
  case atStart => exact ⟨0, Nat.zero_le _, rfl, Below.refl _ _, Hrow0.out⟩
  case round =>
    obtain ⟨k, hkle, rfl, hinv⟩ := hrel
    have Hbel := Lib.hid hinv.out.1
    have Hown := Lib.hid hinv.out.2
    clear hinv
    have Hbw := Lib.hid (HbW.out.trans ((Hb3.out.trans Hbel.out).mono (by have := HWs.out; omega)))
    by_cases hklt : k < F.length
    · obtain ⟨bk, offk, uk, rfl, hbk, hcellk, huk⟩ := Hat1.out.lt_ hklt
      obtain rfl := huk
      have hck := (Hbw.out.cell (p := ⟨bk, offk + k, none⟩) hbk).trans hcellk
      obtain ⟨hx1, hx2⟩ := HF.out _ (List.getElem_mem hklt)
      have Hs := Lib.hid (foldT_succ hklt (padT n ts))
      have hol : ((F.take k).foldl setT (padT n ts)).length = n := by rw [foldT_length, padT_length]
      obtain ⟨o, ho⟩ : ∃ o, o = (F.take k).foldl setT (padT n ts) := ⟨_, rfl⟩
      obtain ⟨x, hx⟩ : ∃ x, x = F[k] := ⟨_, rfl⟩
      rw [← hx] at hck hx1 hx2 Hs
      rw [← ho] at Hs Hown hol
      have Hol := Lib.hid hol
      clear hcellk hx ho hol
      rcases Int.lt_trichotomy x 0 with hneg | rfl | hpos
      · obtain ⟨q, rfl⟩ : ∃ q : Nat, x = -((q : Int) + 1) := ⟨(-x - 1).toNat, by omega⟩
        have hgt : -((q : Int) + 1) < -(-((q : Int) + 1)) := by omega
        have hn0 : decide (0 < -((q : Int) + 1)) = false := by simp; omega
        by_cases hq : q < n
        · have Hst := Lib.hid (show setT o (-((q : Int) + 1)) = o.set q false by
            unfold setT
            rw [Hol.out, if_pos (by omega), show (-((q : Int) + 1)).natAbs - 1 = q by omega, hn0])
          have hcq := (own_at Hown.out q).1 hq
          rw [List.getElem?_map, List.getElem?_eq_getElem (by have := Hol.out; omega)] at hcq
          simp only [Option.map_some] at hcq
          have hfq := (own_at Hown.out q).2
          have hqi : (q : Int) + 1 ≤ n := by omega
          go_wp2
          go_roundw
          case rel => exact ⟨k + 1, by omega, by go_num, Hbel.out.setCell (Nat.le_refl _) _, by rw [Hs.out, Hst.out, List.map_set]; exact own_set Hown.out q _⟩
          case measure => simp [intOf]; omega
        · have Hst := Lib.hid (show setT o (-((q : Int) + 1)) = o by unfold setT; rw [Hol.out, if_neg (by omega)])
          have hqi : (n : Int) < (q : Int) + 1 := by omega
          go_wp2
          go_roundw
          case rel => exact ⟨k + 1, by omega, by go_num, Hbel.out, by rw [Hs.out, Hst.out]; exact Hown.out⟩
          case measure => simp [intOf]; omega
      · have Hst := Lib.hid (show setT o 0 = o by unfold setT; rw [if_neg (by simp)])
        go_wp2
        go_roundw
        case rel => exact ⟨k + 1, by omega, by go_num, Hbel.out, by rw [Hs.out, Hst.out]; exact Hown.out⟩
        case measure => simp [intOf]; omega
      · obtain ⟨q, rfl⟩ : ∃ q : Nat, x = (q : Int) + 1 := ⟨(x - 1).toNat, by omega⟩
        have hgt : -((q : Int) + 1) ≤ (q : Int) + 1 := by omega
        have hn0 : decide (0 < (q : Int) + 1) = true := decide_eq_true (by omega)
        by_cases hq : q < n
        · have Hst := Lib.hid (show setT o ((q : Int) + 1) = o.set q true by
            unfold setT
            rw [Hol.out, if_pos (by omega), show ((q : Int) + 1).natAbs - 1 = q by omega, hn0])
          have hcq := (own_at Hown.out q).1 hq
          rw [List.getElem?_map, List.getElem?_eq_getElem (by have := Hol.out; omega)] at hcq
          simp only [Option.map_some] at hcq
          have hfq := (own_at Hown.out q).2
          have hqi : (q : Int) + 1 ≤ n := by omega
          go_wp2
          go_roundw
          case rel => exact ⟨k + 1, by omega, by go_num, Hbel.out.setCell (Nat.le_refl _) _, by rw [Hs.out, Hst.out, List.map_set]; exact own_set Hown.out q _⟩
          case measure => simp [intOf]; omega
        · have Hst := Lib.hid (show setT o ((q : Int) + 1) = o by unfold setT; rw [Hol.out, if_neg (by omega)])
          have hqi : (n : Int) < (q : Int) + 1 := by omega
          go_wp2
          go_roundw
          case rel => exact ⟨k + 1, by omega, by go_num, Hbel.out, by rw [Hs.out, Hst.out]; exact Hown.out⟩
          case measure => simp [intOf]; omega
    · obtain rfl : k = F.length := by omega
      rw [List.take_length] at Hown
      go_wp2
      go_ret
      refine ⟨_, rfl, ?_, Hbw.out⟩
      have hl : ((F.foldl setT (padT n ts))).length = n := by rw [foldT_length, padT_length]
      have hlt := Hown.out.lt
      exact reads_of_own (R := RBool) Hown.out hl (fun g hg => ⟨by have := (hlt g hg).1; omega, (hlt g hg).2⟩) fun i hi u hu => by
        have hi' : i < (F.foldl setT (padT n ts)).length := hi
        rw [List.getElem?_map, List.getElem?_eq_getElem hi'] at hu
        simpa [RBool, eq_comm, growT] using hu
end Go.Proofs.Ytdofiipckcfopaa
