/- dimacs.lines: the iterator over the lines that count. -/
import Derived.Test.YtgfbmidpiamkhaaDoorDiW3
import Derived.Test.YtgfbmidpiamkhaaDoorDiRg
import Derived.RangeFuncBound
import Derived.Shelf.Abstract
import Derived.Shelf.RegionOpen
import Derived.OwnWalkIn
import Derived.TacticsInMore
import Derived.LoopNIn
import Derived.LoopIn
namespace Go.Proofs.YtgfbmidpiamkhaaDoor
open Go.RowKit
open C01 D28

theorem pre_ten (x : UInt8) (l : List UInt8) : [10].isPrefixOf (x :: l) = (x == 10) := by
  rw [Bool.eq_iff_iff, List.isPrefixOf_iff_prefix, List.cons_prefix_cons, beq_iff_eq]
  exact ⟨fun h => h.1.symm, fun h => ⟨h.symm, List.nil_prefix⟩⟩
theorem index_ten (l : List UInt8) : Lib.index (10 :: l) [10] = 0 := by rw [Lib.index, pre_ten]; rfl
theorem index_noten {x : UInt8} {l : List UInt8} (hx : x ≠ 10) : Lib.index (x :: l) [10] = if Lib.index l [10] == -1 then -1 else Lib.index l [10] + 1 := by
  rw [Lib.index, pre_ten]
  simp [hx]
theorem split_cut10 : ∀ l : List UInt8, Lib.splitK [10] 0 (l.count 10) l = cut10 l
  | [] => rfl
  | x :: l => by
    have ih := split_cut10 l
    by_cases hx : x = 10
    · subst hx
      rw [List.count_cons_self, Lib.splitK, index_ten]
      simp only [cut10_end]
      rw [← ih]
      simp
    · have hc : (x :: l).count 10 = l.count 10 := List.count_cons_of_ne (fun e => hx e)
      rw [hc]
      cases hk : l.count 10 with
      | zero =>
        rw [hk] at ih
        rw [cut10_other hx (show cut10 l = l :: [] from ih.symm)]
        rfl
      | succ k =>
        rw [hk] at ih
        rw [Lib.splitK] at ih ⊢
        rw [index_noten hx]
        by_cases hi : (Lib.index l [10] == -1) = true
        · rw [if_pos hi] at ih ⊢
          rw [cut10_other hx ih.symm]
          rfl
        · rw [if_neg hi] at ih ⊢
          have h0 : 0 ≤ Lib.index l [10] := by
            have := Lib.index_ge l [10]
            have : Lib.index l [10] ≠ -1 := fun e => hi (beq_iff_eq.2 e)
            omega
          have h1 : ¬ (Lib.index l [10] + 1 == -1) = true := fun e => by have := beq_iff_eq.1 e; omega
          rw [if_neg h1, cut10_other hx ih.symm]
          have e1 : (Lib.index l [10] + 1).toNat = (Lib.index l [10]).toNat + 1 := by omega
          simp [e1]
theorem countB_ten (a : Bs) : Lib.countB (bz a) ⟨#[10]⟩ = a.count 10 := Lib.count_one 10 _
theorem split_ten (a : Bs) : Lib.splitB ⟨#[10]⟩ 0 (Lib.countB (bz a) ⟨#[10]⟩) (bz a) = (cut10 a).map bz := by
  have h : (Lib.splitB ⟨#[10]⟩ 0 (Lib.countB (bz a) ⟨#[10]⟩) (bz a)).map (·.data.toList) = cut10 a := by
    rw [Lib.splitB_data, countB_ten]; exact split_cut10 a
  rw [← h, List.map_map]
  conv => lhs; rw [← List.map_id (Lib.splitB ⟨#[10]⟩ 0 (Lib.countB (bz a) ⟨#[10]⟩) (bz a))]
  exact List.map_congr_left fun x _ => bz_of x
theorem Split_any (a : Bs) (m : Int) (w : World) (ha : a.length ≤ 1000000000) (hm : w.cell? ⟨0, 0, none⟩ = some (.int .i64 m)) : Calls Tryd.prog 47 #[sv a, .string ⟨#[10]⟩] w fun e w' =>
    e = .returned (.slice (some ⟨w.heap.size, 0, none⟩) (cut10 a).length (cut10 a).length) ∧ w' = w.alloc (.cells ((cut10 a).map sv).toArray 9) := by
  refine (Any.strings_Split laySp (by kernel_rfl) (bz a) ⟨#[10]⟩ m w (by rw [bz_size]; omega) hm (by decide)).mono ?_
  rintro e w' ⟨rfl, rfl⟩
  rw [split_ten, countB_ten, cut10_len, List.map_map]
  exact ⟨rfl, rfl⟩
/-- words of a line in memory -/
def WAt (w : World) (v : Value) (W : List Bs) : Prop :=
  ∃ g cap cur, v = .slice (some ⟨g, 0, none⟩) W.length cap ∧ w.heap[g]? = some (.cells cur 9 (0, 0)) ∧ ∀ j (h : j < W.length), cur[j]? = some (sv W[j])
theorem WAt.of_own {w : World} {B : Nat} {v : Value} {W : List Bs} (h : OwnT w B v W) (hW : W ≠ []) : WAt w v W := by
  have hp := List.length_pos_iff.2 hW
  obtain ⟨_, ⟨rfl, h0⟩ | ⟨g, cap, cur, rfl, hbg, hg, hnc, hcm, hsz, htk⟩⟩ := h
  · omega
  · refine ⟨g, cap, cur, rfl, hg, fun j hj => ?_⟩
    have : (cur.toList.take (W.length * 1))[j]? = some (sv W[j]) := by rw [htk]; simp [hj]
    rw [List.getElem?_take_of_lt (by omega)] at this
    simpa using this
theorem WAt.kp {p : Nat → Obj → Prop} {w w' : World} {v : Value} {W : List Bs} (h : WAt w v W) (hk : Kp p w w') (hp : ∀ b c f, p b (.cells c 9 f)) : WAt w' v W := by
  obtain ⟨g, cap, cur, hv, hg, hc⟩ := h
  exact ⟨g, cap, cur, hv, hk.same g _ hg (hp _ _ _), hc⟩
def OkL (a : Bs) (k : Nat) (w : World) (args : Array Value) : Prop := ∃ (h : k < (linesOf a).length) (v : Value), args = #[.int .i64 ((linesOf a)[k].1 : Nat), v] ∧ WAt w v (linesOf a)[k].2
/-! ### words are not empty -/
theorem wstep_ne {s : WS} {c : UInt8} (h : ∀ x ∈ s.1, x ≠ []) : ∀ x ∈ (wstep s c).1, x ≠ [] := by
  unfold wstep
  split
  · split
    · exact h
    · intro x hx
      simp only [List.mem_append, List.mem_singleton] at hx
      rcases hx with hx | rfl
      · exact h x hx
      · assumption
  · exact h
theorem foldl_ne (a : Bs) : ∀ s : WS, (∀ x ∈ s.1, x ≠ []) → ∀ x ∈ (a.foldl wstep s).1, x ≠ [] := by
  induction a with
  | nil => exact fun s h => h
  | cons c a ih => exact fun s h => ih _ (wstep_ne h)
theorem wfin_ne {s : WS} (h : ∀ x ∈ s.1, x ≠ []) : ∀ x ∈ wfin s, x ≠ [] := by
  unfold wfin
  split
  · exact h
  · intro x hx
    simp only [List.mem_append, List.mem_singleton] at hx
    rcases hx with hx | rfl
    · exact h x hx
    · assumption
theorem words_ne (a : Bs) : ∀ x ∈ wordsOf a, x ≠ [] := wfin_ne (foldl_ne a _ (by simp))
theorem emits_take {ps : List Bs} {i : Nat} (h : i < ps.length) (n : Nat) : emits n (ps.take (i + 1)) = emits n (ps.take i) ++ emitL (n + i) (wordsOf ps[i]) := by
  rw [List.take_succ_eq_append_getElem h, emits_append]
  simp [emits, List.length_take, Nat.min_eq_left (Nat.le_of_lt h)]
theorem emits_pre {ps : List Bs} {i : Nat} (n : Nat) : emits n (ps.take i) <+: emits n ps := by
  conv => rhs; rw [← List.take_append_drop i ps]
  rw [emits_append]; exact List.prefix_append _ _
theorem cut10_mem {a p : Bs} (h : p ∈ cut10 a) : p.length ≤ a.length := by
  induction a generalizing p with
  | nil => simp [cut10] at h; subst h; simp
  | cons x a ih =>
    obtain ⟨q, qs, hq⟩ : ∃ p ps, cut10 a = p :: ps := by
      cases h : cut10 a with
      | nil => exact absurd h (cut10_ne a)
      | cons p ps => exact ⟨p, ps, rfl⟩
    by_cases hx : x = 10
    · subst hx
      rw [cut10_end] at h
      rcases List.mem_cons.1 h with rfl | h
      · simp
      · have := ih h; simp; omega
    · rw [cut10_other hx hq] at h
      rcases List.mem_cons.1 h with rfl | h
      · have := ih (p := q) (by rw [hq]; simp); simp; omega
      · have := ih (p := p) (by rw [hq]; simp [h]); simp; omega
attribute [local go_sem] Oper.semAt_some
set_option maxRecDepth 100000 in
set_option maxHeartbeats 4000000 in
theorem lines1_gives (a : Bs) (m : Int) (b : Nat) (w : World) (hm : w.cell? ⟨0, 0, none⟩ = some (.int .i64 m)) (hb : w.cell? ⟨b, 0, none⟩ = some (sv a)) (ha : a.length ≤ 1000000000) :
    Gives Tryd.prog 9 9 46 #[.pointer (some ⟨b, 0, none⟩)] (linesOf a).length (OkL a) w := by
  intro l J Jp W hbW hJ hY h0
  have hm1 : W.cell? ⟨0, 0, none⟩ = some (.int .i64 m) := (hbW.cell (p := ⟨_, _, _⟩) (World.block_lt_of_cell? w _ hm)).trans hm
  have hb1 : W.cell? ⟨b, 0, none⟩ = some (sv a) := (hbW.cell (p := ⟨_, _, _⟩) (World.block_lt_of_cell? w _ hb)).trans hb
  have HS := Lib.hid (Split_any a m W ha hm1)
  refine callsIn_of_wp Tryd.func46 rfl trivial ?_
  simp only [Tryd.ntmps46, List.size_toArray, List.length_cons, List.length_nil, Nat.reduceAdd, Nat.reduceSub, Array.replicate_succ, Array.replicate_zero, List.push_toArray, List.append_toArray, List.nil_append, List.cons_append]
  gi_wp2_with (refine ⟨trivial, ?_⟩; gi_at_call 47; refine (callsIn_wide.2 HS.out).mono ?_; rintro e w1 ⟨rfl, hw1⟩)
  rw [← hw1]
  have hS1 : w1.heap[W.heap.size]? = some (.cells ((cut10 a).map sv).toArray 9 (0, 0)) := by rw [hw1]; exact heap_alloc_new _ _
  have h01 : J 0 w1 := by rw [hw1]; exact hJ 0 W _ h0 (below_alloc _ _)
  obtain ⟨Sb, hSb⟩ : ∃ Sb, Sb = W.heap.size := ⟨_, rfl⟩
  rw [← hSb] at hS1 ⊢
  clear hw1 hSb hb1 hm1 hm hb h0 HS
  obtain ⟨ps, hps⟩ : ∃ ps, ps = cut10 a := ⟨_, rfl⟩
  have hL : linesOf a = emits 1 ps := by rw [linesOf_eq, hps]
  have hpl : ps.length ≤ a.length + 1 := by rw [hps, cut10_len]; have := List.count_le_length (a := (10 : UInt8)) (l := a); omega
  have hpm : ∀ p ∈ ps, p.length ≤ 1000000000 := by
    rw [hps]; intro p hp; have := cut10_mem hp; omega
  rw [← hps] at hS1 ⊢
  have HL := Lib.hid hL
  have HY := Lib.hid hY
  have HJ := Lib.hid hJ
  clear hL hps hY hJ
  gi_loopw [9] (fun iv wr => ∃ i : Nat, i ≤ ps.length ∧ iv = .int .i64 i ∧ Hid (J (emits 1 (ps.take i)).length wr) ∧ Hid (wr.heap[Sb]? = some (.cells (ps.map sv).toArray 9 (0, 0)))) (fun iv _ => ps.length - (intOf iv).toNat)
  case atStart => exact ⟨0, Nat.zero_le _, rfl, Lib.hid h01, Lib.hid hS1⟩
  case round =>
    obtain ⟨i, hi, rfl, HJi, HS⟩ := hrel
    by_cases hlt : i < ps.length
    · have hc : wr.cell? ⟨Sb, i, none⟩ = some (sv ps[i]) := by rw [cell_of_row _ _ i _ _ _ HS.out]; simp [hlt]
      have hpi := hpm _ (List.getElem_mem hlt)
      have HW := Lib.hid (fun w => words_any ps[i] w hpi)
      have Hne := Lib.hid (words_ne ps[i])
      have HT := Lib.hid (emits_take hlt 1)
      have HP := Lib.hid (emits_pre (ps := ps) (i := i + 1) 1)
      obtain ⟨V, hV⟩ : ∃ V, V = wordsOf ps[i] := ⟨_, rfl⟩
      rw [← hV] at HW Hne HT
      clear hV
      cases V with
      | nil =>
        have Hn := Lib.hid (show emits 1 (ps.take (i + 1)) = emits 1 (ps.take i) by rw [HT.out]; simp [emitL, countsB])
        gi_wp2_with (refine ⟨trivial, ?_⟩; gi_at_call 48; refine (callsIn_wide.2 (HW.out _)).mono ?_; rintro e w2 ⟨v, rfl, ho, hbl⟩; obtain ⟨A2, c2, rfl⟩ := own_shape ho; have HJ2 := Lib.hid (HJ.out _ _ _ HJi.out hbl); have HS2 := Lib.hid ((hbl.block _ (Array.getElem?_eq_some_iff.1 HS.out).1).trans HS.out); clear ho hbl)
        refine ⟨fun _ _ => trivial, ?_⟩
        gi_wp2
        go_roundw
        case rel => exact ⟨i + 1, by omega, by go_num, Lib.hid (by rw [Hn.out]; exact HJ2.out), HS2⟩
        case measure => simp [intOf]; omega
      | cons x V =>
        have hx0 : 0 < (bz x).size := by
          have := Hne.out x (by simp)
          rw [bz_size]; exact List.length_pos_iff.2 this
        have hx00 : (bz x)[0] = x[0]'hx0 := rfl
        have hvl : (0 : Int) < ((V.length : Nat) : Int) + 1 := by omega
        by_cases h99 : x[0]'hx0 = 99
        · have hb99 : (((bz x)[0].toNat : Int) != 99) = false := by rw [hx00, h99]; rfl
          have Hn := Lib.hid (show emits 1 (ps.take (i + 1)) = emits 1 (ps.take i) by
            rw [HT.out]
            cases x with
            | nil => cases hx0
            | cons y ys =>
              have h99 : y = 99 := h99
              subst h99; simp [emitL, countsB])
          clear h99 hx00
          gi_wp2_with (refine ⟨trivial, ?_⟩; gi_at_call 48; refine (callsIn_wide.2 (HW.out _)).mono ?_; rintro e w2 ⟨v, rfl, ho, hbl⟩; have HJ2 := Lib.hid (HJ.out _ _ _ HJi.out hbl); have HS2 := Lib.hid ((hbl.block _ (Array.getElem?_eq_some_iff.1 HS.out).1).trans HS.out); obtain ⟨g, cap, cur, rfl, hg, hcs⟩ := WAt.of_own ho (by simp); have hc0 := (cell_of_row _ _ 0 _ _ _ hg).trans (hcs 0 (by simp)); dsimp only [List.getElem_cons_zero] at hc0; clear ho hbl hg hcs)
          refine ⟨fun _ _ => trivial, ?_⟩
          gi_wp2
          go_roundw
          case rel => exact ⟨i + 1, by omega, by go_num, Lib.hid (by rw [Hn.out]; exact HJ2.out), HS2⟩
          case measure => simp [intOf]; omega
        · have hb99 : (((bz x)[0].toNat : Int) != 99) = true := by
            rw [hx00, bne_iff_ne]; intro e; exact h99 (UInt8.toNat_inj.1 (by show (x[0]'hx0).toNat = 99; omega))
          have hcb : countsB (x :: V) = true := by
            cases x with
            | nil => cases hx0
            | cons y ys =>
              have h99 : y ≠ 99 := h99
              unfold countsB
              split <;> simp_all
          obtain ⟨k, hk⟩ : ∃ k, k = (emits 1 (ps.take i)).length := ⟨_, rfl⟩
          have hT2 : emits 1 (ps.take (i + 1)) = emits 1 (ps.take i) ++ [(1 + i, x :: V)] := by rw [HT.out, emitL, if_pos hcb]
          have Hk1 := Lib.hid (show (emits 1 (ps.take (i + 1))).length = k + 1 by rw [hT2, hk]; simp)
          have hkN : k < (linesOf a).length := by
            rw [HL.out]; have := HP.out.length_le; rw [Hk1.out] at this; omega
          have hat : (linesOf a)[k] = (1 + i, x :: V) := by
            have e : linesOf a = emits 1 ps := HL.out
            obtain ⟨r, hr⟩ := HP.out
            have : (linesOf a)[k]? = some (1 + i, x :: V) := by rw [e, ← hr, hT2, hk]; simp
            rw [List.getElem?_eq_getElem hkN] at this
            exact Option.some.inj this
          have HA := Lib.hid hat
          have Hki := Lib.hid hk
          clear h99 hx00 hcb hT2 hk hat
          gi_wp2_with (refine ⟨trivial, ?_⟩; gi_at_call 48; refine (callsIn_wide.2 (HW.out _)).mono ?_; rintro e w2 ⟨v, rfl, ho, hbl⟩; have HJ2 := Lib.hid (HJ.out _ _ _ HJi.out hbl); have HS2 := Lib.hid ((hbl.block _ (Array.getElem?_eq_some_iff.1 HS.out).1).trans HS.out); have hwa := WAt.of_own ho (by simp); have hok : OkL a k w2 #[.int .i64 ((i : Int) + 1), v] := ⟨hkN, v, by rw [HA.out]; simp; omega, by rw [HA.out]; exact hwa⟩; obtain ⟨g, cap, cur, rfl, hg, hcs⟩ := hwa; have hc0 := (cell_of_row _ _ 0 _ _ _ hg).trans (hcs 0 (by simp)); dsimp only [List.getElem_cons_zero] at hc0; obtain ⟨fn, tmps, asg, bd, hy, hR⟩ := HY.out k w2 _ hkN (by rw [Hki.out]; exact HJ2.out) hok; simp only [List.length_cons] at hy; clear ho hbl hg hcs hok)
          refine hR.mono ?_
          rintro e W3 (⟨rfl, hJ3, hk3⟩ | ⟨c, rfl, hp⟩)
          · have HS3 := Lib.hid (hk3.same _ _ HS2.out rfl)
            have HJ3 := Lib.hid hJ3
            clear hJ3 hk3 hR hy
            gi_wp2
            go_roundw
            case rel => exact ⟨i + 1, by omega, by go_num, Lib.hid (by rw [Hk1.out]; exact HJ3.out), HS3⟩
            case measure => simp [intOf]; omega
          · exact ⟨rfl, .inr ⟨c, rfl, hp⟩⟩
    · obtain rfl : i = ps.length := by omega
      have Hn := Lib.hid (show J (linesOf a).length wr by rw [HL.out]; simpa using HJi.out)
      clear hlt hi HS HJi
      gi_wp2
      go_end0
      exact .inl ⟨⟨_, rfl⟩, Hn.out⟩
end Go.Proofs.YtgfbmidpiamkhaaDoor
