/- Which questions may be (sat.May). / Solve. / What is proved speaks of the question's variables. Plain. / .. -/
import Derived.Test.YtcebafeaikipmaaZa
import Derived.Test.YtcebafeaikipmaaZb
import Derived.Test.YtcebafeaikipmaaZe
import Derived.Test.YtcebafeaikipmaaZj
import Derived.Test.YtcebafeaikipmaaZl
namespace Go.Proofs.Ytcebafeaikipmaa.S15
open Go.RowKit

def badLit (v : Int) (x : Int) : Bool := x == 0 || decide (v < x) || decide (x < -v)
def satMayN (v : Int) (cls : List (List Int)) : Nat :=
  if 1024 < v ∨ 16384 < cls.length then 2 else if cls.any (fun c => decide (2048 < c.length)) then 2 else if v < 0 then 1 else if cls.any (fun c => c.any (badLit v)) then 1 else 0

set_option maxHeartbeats 1000000 in
theorem satMay_any (v : Int) (s : Value) (cls : List (List Int)) (w : World) (hs : RIntss w (Lt w.heap.size) s cls) :
    Calls Try.prog 41 #[.agg #[.int .i64 v, s]] w fun e w' => e = .returned (.int .i64 (satMayN v cls : Nat)) ∧ Below w.heap.size w w' := by
  obtain ⟨A, c, rfl, hm, hat⟩ := hs.open_
  have hb : Below w.heap.size w (w.alloc (.cells #[.int .i64 v, .slice A cls.length c] 61)) := (Below.refl _ _).alloc (Nat.le_refl _) _
  have Hb := Lib.hid hb; clear hb
  have Hat := Lib.hid hat; clear hat
  by_cases h1 : 1024 < v
  · have Hd := Lib.hid (show (2 : Int) = (satMayN v cls : Nat) by simp [satMayN, h1])
    go_enter Try.func41, Try.ntmps41
    go_wp2
    go_ret
    exact ⟨ret_int Hd.out, Hb.out⟩
  by_cases h2 : 16384 < cls.length
  · have Hd := Lib.hid (show (2 : Int) = (satMayN v cls : Nat) by simp [satMayN, h1, h2])
    go_enter Try.func41, Try.ntmps41
    go_wp2
    go_ret
    exact ⟨ret_int Hd.out, Hb.out⟩
  have Hn := Lib.hid (show satMayN v cls = if cls.any (fun c => decide (2048 < c.length)) then 2 else if v < 0 then 1 else if cls.any (fun c => c.any (badLit v)) then 1 else 0 by simp only [satMayN]; rw [if_neg (by omega)])
  go_enter Try.func41, Try.ntmps41
  go_wp2
  go_loop [21] (fun sv => ∃ k : Nat, k ≤ (cls).length ∧ sv = .int .i64 k ∧ Hid ((cls.take k).any (fun c => decide (2048 < c.length)) = false)) (fun sv => (cls).length - (intOf sv).toNat)
  case atStart => exact ⟨0, Nat.zero_le _, rfl, hid_nil_any _ _⟩
  case round =>
    obtain ⟨k, hkle, rfl, hkinv⟩ := hrel
    by_cases hklt : k < (cls).length
    · obtain ⟨bk, offk, uk, rfl, hbk, hcellk, huk⟩ := Hat.out.lt_ hklt
      obtain ⟨A2, c2, rfl, hm2, hat2⟩ := huk.open_
      clear hat2
      by_cases h3 : 2048 < cls[k].length
      · have hbig : cls.any (fun c => decide (2048 < c.length)) = true := any_at (h := hklt) (by simpa using h3)
        have Hd := Lib.hid (show (2 : Int) = (satMayN v cls : Nat) by rw [Hn.out, hbig]; rfl)
        clear hbig
        go_wp2
        go_ret
        exact ⟨ret_int Hd.out, Hb.out⟩
      · go_wp2
        go_round
        case rel => exact ⟨k + 1, by omega, by go_num, (hid_any_succ hklt hkinv (by simpa using h3))⟩
        case measure => simp [intOf]; omega
    · obtain rfl : k = (cls).length := by omega
      have hnb := hid_any_end hkinv
      clear hkinv
      by_cases h4 : v < 0
      · have Hd := Lib.hid (show (1 : Int) = (satMayN v cls : Nat) by rw [Hn.out, hnb, if_pos h4]; rfl)
        clear hnb
        go_wp2
        go_ret
        exact ⟨ret_int Hd.out, Hb.out⟩
      have Hn2 := Lib.hid (show satMayN v cls = if cls.any (fun c => c.any (badLit v)) then 1 else 0 by rw [Hn.out, hnb, if_neg h4]; rfl)
      clear hnb
      go_wp2
      go_loop [35] (fun sv => ∃ i : Nat, i ≤ (cls).length ∧ sv = .int .i64 i ∧ Hid ((cls.take i).any (fun c => c.any (badLit v)) = false)) (fun sv => (cls).length - (intOf sv).toNat)
      case atStart => exact ⟨0, Nat.zero_le _, rfl, hid_nil_any _ _⟩
      case round =>
        obtain ⟨i, hile, rfl, hiinv⟩ := hrel
        by_cases hilt : i < (cls).length
        · obtain ⟨bi, offi, ui, rfl, hbi, hcelli, hui⟩ := Hat.out.lt_ hilt
          obtain ⟨A2, c2, rfl, hm2, hat2⟩ := hui.open_
          have Hat2 := Lib.hid hat2; clear hat2
          go_wp2
          go_loop [41] (fun sv => ∃ j : Nat, j ≤ (cls[i]).length ∧ sv = .int .i64 j ∧ Hid ((cls[i].take j).any (badLit v) = false)) (fun sv => (cls[i]).length - (intOf sv).toNat)
          case atStart => exact ⟨0, Nat.zero_le _, rfl, hid_nil_any _ _⟩
          case round =>
            obtain ⟨j, hjle, rfl, hjinv⟩ := hrel
            by_cases hjlt : j < (cls[i]).length
            · obtain ⟨bj, offj, uj, rfl, hbj, hcellj, huj⟩ := Hat2.out.lt_ hjlt
              obtain rfl := huj
              cases hx : badLit v cls[i][j] with
              | true =>
                have hbad : cls.any (fun c => c.any (badLit v)) = true := any_at (h := hilt) (any_at (h := hjlt) hx)
                have Hd := Lib.hid (show (1 : Int) = (satMayN v cls : Nat) by rw [Hn2.out, hbad]; rfl)
                clear hbad
                simp only [badLit, Bool.or_eq_true, beq_iff_eq, decide_eq_true_eq] at hx
                by_cases hx0 : cls[i][j] = 0
                · have hx0' : (cls[i][j] == 0) = true := by simp [hx0]
                  clear hx hx0
                  go_wp2
                  go_ret
                  exact ⟨ret_int Hd.out, Hb.out⟩
                have hx0' : (cls[i][j] == 0) = false := by simp [hx0]
                by_cases hx1 : v < cls[i][j]
                · clear hx hx0
                  go_wp2
                  go_ret
                  exact ⟨ret_int Hd.out, Hb.out⟩
                have hx2 : cls[i][j] < -v := by omega
                clear hx hx0
                go_wp2
                go_ret
                exact ⟨ret_int Hd.out, Hb.out⟩
              | false =>
                have Hx := Lib.hid hx
                simp only [badLit, Bool.or_eq_false_iff, beq_eq_false_iff_ne, decide_eq_false_iff_not] at hx
                have hx0 : (cls[i][j] == 0) = false := by simp [hx.1.1]
                have hx1 := hx.1.2
                have hx2 := hx.2
                clear hx
                go_wp2
                go_round
                case rel => exact ⟨j + 1, by omega, by go_num, (hid_any_succ hjlt hjinv Hx.out)⟩
                case measure => simp [intOf]; omega
            · obtain rfl : j = (cls[i]).length := by omega
              go_wp2
              go_round
              case rel => exact ⟨i + 1, by omega, by go_num, (hid_any_succ hilt hiinv (hid_any_end hjinv))⟩
              case measure => simp [intOf]; omega
        · obtain rfl : i = (cls).length := by omega
          go_wp2
          go_ret
          exact ⟨ret_int (by rw [Hn2.out, hid_any_end hiinv]; rfl), Hb.out⟩
end Go.Proofs.Ytcebafeaikipmaa.S15

namespace Go.Proofs.Ytcebafeaikipmaa.S15
open Go.RowKit

theorem may_facts {n : Nat} {cs : List (List Int)} (h : satMayN n cs = 0) : n ≤ 1024 ∧ cs.length ≤ 16384 ∧ (∀ c ∈ cs, c.length ≤ 2048) ∧ ∀ c ∈ cs, ∀ z ∈ c, z ≠ 0 ∧ z.natAbs ≤ n := by
  unfold satMayN at h
  split at h
  · cases h
  · split at h
    · cases h
    · split at h
      · cases h
      · split at h
        · cases h
        · rename_i h1 h2 h3 h4
          refine ⟨by omega, by omega, fun c hc => ?_, fun c hc z hz => ?_⟩
          · simp only [Bool.not_eq_true, List.any_eq_false, decide_eq_true_eq] at h2
            have := h2 c hc; omega
          · simp only [Bool.not_eq_true, List.any_eq_false] at h4
            have := h4 c hc
            have := this z hz
            unfold badLit at this
            simp at this
            omega
theorem ansV_form {w : World} {S : Nat → Prop} {v : Value} {a : SAns} (h : AnsV w S v a) : ∃ (e k : Int) (A1 A2 : Option Addr) (n1 c1 n2 c2 : Nat), v = .agg #[.int .i64 e, .slice A1 n1 c1, .slice A2 n2 c2, .int .i64 k] := by
  cases a with
  | opn k => exact ⟨_, _, _, _, _, _, _, _, h⟩
  | unsat p k =>
    obtain ⟨pv, rfl, A, c, rfl, -⟩ := h
    exact ⟨_, _, _, _, _, _, _, _, rfl⟩
  | sat t k =>
    obtain ⟨pv, rfl, A, c, rfl, -⟩ := h
    exact ⟨_, _, _, _, _, _, _, _, rfl⟩
theorem AnsV.agree {w w' : World} {S S' : Nat → Prop} {v : Value} {a : SAns} (h : AnsV w S v a) (hg : Ag S w w') (hs : ∀ b, S b → S' b) : AnsV w' S' v a := by
  cases a with
  | opn k => exact h
  | unsat p k => obtain ⟨pv, h1, h2⟩ := h; exact ⟨pv, h1, RIntss.stable _ _ _ _ _ _ h2 hg hs⟩
  | sat t k => obtain ⟨pv, h1, h2⟩ := h; exact ⟨pv, h1, RBools.stable _ _ _ _ _ _ h2 hg hs⟩
theorem ag4R {S : Nat → Prop} {w : World} {rb : Nat} (h : ∀ b, S b → b ≠ rb) (x y z u : Value) : Ag S w ((((w.setCell ⟨rb, 0, none⟩ x).setCell ⟨rb, 1, none⟩ y).setCell ⟨rb, 2, none⟩ z).setCell ⟨rb, 3, none⟩ u) := by
  have a1 : ∀ (w : World) (j : Nat) (q : Value), Ag (fun b => b ≠ rb) w (w.setCell ⟨rb, j, none⟩ q) := fun w j q => ag_setCell w ⟨rb, j, none⟩ q
  exact ((((a1 _ _ _).trans (a1 _ _ _)).trans (a1 _ _ _)).trans (a1 _ _ _)).sub h
theorem results_row2S {P : Program} {fn : Func} {p u : Tmp} {ty : TypeId} (h : fn.results = #[.cell p ty, .tmp u]) (tmps : Array Value) (w : World) (g : Nat) (t : TypeId) (cs : Array Value) (fr : Nat × Nat) (d : TypeDesc)
    (hp : tmps.getD p undef = .pointer (some ⟨g, 0, none⟩)) (hg : w.heap[g]? = some (.cells cs t fr))
    (hu : P.underlying ty = some d) (hd : (match d with | .struct _ | .array _ _ => true | _ => false) = true) (hi : (P.info? ty).map (·.size) = some cs.size) :
    (results fn tmps).run P w = .ok (.tuple #[.agg cs, tmps.getD u undef]) w := by
  have hp' : tmps[p]?.getD undef = .pointer (some ⟨g, 0, none⟩) := by simpa using hp
  rw [results_cell_tmp h, hp]
  simp [asAddr, Result.andThen, run_loadVar_row w g t ty cs fr d hg hu hd hi]
theorem Ad.ids {cs dn : List (List Int)} {n : Nat} {s : St} (h : Ad cs dn n s) : Ids s := ⟨h.ic, by rw [h.ln]; simp, fun i c hc => (h.ui.wa.of i c hc).1, h.rb⟩
theorem addAll_step {cs : List (List Int)} {i : Nat} (hi : i < cs.length) (t : St) : addAll (cs.drop i) t = if (addS t cs[i]).2 = true then addAll (cs.drop (i + 1)) (addS t cs[i]).1 else ((addS t cs[i]).1, false) := by
  rw [List.drop_eq_getElem_cons hi, addAll]
  cases h : addS t cs[i] with
  | mk s b => cases b <;> rfl
theorem one_nil {w : World} {t : TypeId} {T : Nat → Prop} {g : Nat} (h : w.heap[g]? = some (.cells #[.slice none 0 0] t (0, 0))) (hT : T g) : RIntss w T (.slice (some ⟨g, 0, none⟩) 1 1) [[]] := by
  refine ⟨some ⟨g, 0, none⟩, 1, rfl, Nat.le_refl _, by unfold maxLen; omega, fun _ => ⟨g, 0, rfl, hT, fun k hk => ?_⟩⟩
  have : k = 0 := by simpa using hk
  subst this
  exact ⟨.slice none 0 0, cell_of_row _ _ 0 _ _ (0, 0) h, RSl.nil_ _ _ _⟩
set_option maxRecDepth 100000 in
set_option maxHeartbeats 8000000 in
theorem solve_any {w : World} {n most : Nat} {s : Value} {cs : List (List Int)} (hs : RIntss w (Lt w.heap.size) s cs) (hm : satMayN n cs = 0) (hmost : most ≤ 2000000) (hF : 200 < most → ∀ B S, ForgetOk B S) :
    Calls Try.prog 36 #[.agg #[.int .i64 (n : Int), s], .int .i64 (most : Int)] w fun e w' => ∃ a v, SolveR cs n most a ∧ e = .returned (.tuple #[v, .int .i64 0]) ∧ AnsV w' (fun b => w.heap.size ≤ b ∧ b < w'.heap.size) v a ∧ Below w.heap.size w w' := by
  obtain ⟨f1, f2, f3, f4⟩ := may_facts hm
  obtain ⟨A, c, hse, hlm, hat⟩ := hs.open_
  have Hs := Lib.hid hs
  have Hm := Lib.hid hm
  have HF := Lib.hid hF
  have F3 := Lib.hid f3
  have F4 := Lib.hid f4
  have Hat := Lib.hid hat
  subst hse
  obtain ⟨B0, hB0⟩ : ∃ B0, B0 = w.heap.size := ⟨_, rfl⟩
  have HB0 := Lib.hid hB0
  obtain ⟨N, hN⟩ : ∃ N, N = cs.length := ⟨_, rfl⟩
  have HN := Lib.hid hN
  rw [← hN] at f2
  have hz0 : decide ((most : Int) < 0) = false := decide_eq_false (by omega)
  obtain ⟨w2, hw2⟩ : ∃ w2, w2 = (w.alloc (.cells #[.int .i64 (n : Int), .slice A cs.length c] 61)).alloc (.cells #[.int .i64 0, .slice none 0 0, .slice none 0 0, .int .i64 0] 69) := ⟨_, rfl⟩
  have Hw2 := Lib.hid hw2
  clear hm hF f3 f4 hat hs hw2
  rw [← hN] at Hw2 ⊢
  rw [← hB0]
  clear hB0 hN
  go_enter Try.func36, Try.ntmps36
  go_wp2_with fail
  rw [← HB0.out]
  have HM := Lib.hid (show Calls Try.prog 41 #[.agg #[.int .i64 (n : Int), .slice A N c]] w2 fun e w' => e = .returned (.int .i64 0) ∧ Below w2.heap.size w2 w' by
    have := satMay_any n (.slice A cs.length c) cs w2 (by rw [Hw2.out]; exact RIntss.stable.up (RIntss.stable.up Hs.out (below_alloc _ _)) (below_alloc _ _))
    rw [Hm.out, ← HN.out] at this
    exact this)
  rw [HB0.out, ← Hw2.out, ← HB0.out]
  have hw2s : w2.heap.size = B0 + 2 := by rw [Hw2.out, HB0.out]; simp
  have Hw2s := Lib.hid hw2s
  clear hw2s
  have HK := Lib.hid (fun (W : World) (h : Below w2.heap.size w2 W) => show (W.cell? ⟨B0, 0, none⟩ = some (.int .i64 (n : Int)) ∧ W.cell? ⟨B0, 1, none⟩ = some (.slice A N c)) ∧ W.heap[B0 + 1]? = some (.cells #[.int .i64 0, .slice none 0 0, .slice none 0 0, .int .i64 0] 69 (0, 0)) by
    rw [Hw2.out] at h
    rw [HB0.out]
    refine ⟨⟨box_a h 0, box_a h 1⟩, ?_⟩
    rw [h.block _ (by simp)]
    have := heap_alloc_new (w.alloc (.cells #[.int .i64 (n : Int), .slice A N c] 61)) (.cells #[.int .i64 0, .slice none 0 0, .slice none 0 0, .int .i64 0] 69)
    rwa [World.size_alloc] at this)
  go_wp2_with (first
    | (go_at_call 41; with_reducible refine HM.out.mono ?_; rintro e w3 ⟨rfl, b3⟩; go_loud (have HB3 := Lib.hid b3; obtain ⟨⟨k0, k1⟩, -⟩ := HK.out w3 b3; clear b3))
    | (go_at_call 42; with_reducible refine (newSolver_any n (by omega) w3).mono ?_; rintro e w4 ⟨vl4, rfl, h4, b4⟩; go_loud (have H4 := Lib.hid h4; have HB4 := Lib.hid (HB3.out.trans (b4.mono HB3.out.size)); have HBS4 := Lib.hid b4; clear k0 k1; obtain ⟨⟨k0, k1⟩, -⟩ := HK.out w4 (HB3.out.trans (b4.mono HB3.out.size)); clear h4 b4)))
  have HSB : Hid (B0 + 2 ≤ w3.heap.size) := Lib.hid (by have := HB3.out.size; rw [Hw2s.out] at this; exact this)
  obtain ⟨S, hS⟩ : ∃ S, S = w3.heap.size := ⟨_, rfl⟩
  rw [← hS] at H4 HBS4 HSB
  rw [← hS]
  clear hS
  clear k0 k1
  have HAt := Lib.hid (fun (W : World) (h : Below w2.heap.size w2 W) (i : Nat) (hi : i < cs.length) => show ∃ b off u, A = some ⟨b, off, none⟩ ∧ W.cell? ⟨b, off + i, none⟩ = some u ∧ RInts W (Lt S) u cs[i] by
    have hb : Below w.heap.size w W := by
      rw [Hw2.out] at h
      exact ((below_alloc w _).trans ((below_alloc _ _).mono (by simp))).trans (h.mono (by simp; omega))
    obtain ⟨b, off, u, e, h1, h2, h3⟩ := Hat.out.at_ RInts.stable (ag_of_below hb) hi
    exact ⟨b, off, u, e, h2, RInts.stable.sub h3 fun b (hb : b < _) => (by have := HSB.out; have := HB0.out; show b < S; omega)⟩)
  have HBw := Lib.hid (fun (W : World) (h : Below w2.heap.size w2 W) => show Below B0 w W by
    rw [Hw2.out] at h
    rw [HB0.out]
    exact ((below_alloc w _).trans ((below_alloc _ _).mono (by simp))).trans (h.mono (by simp; omega)))
  go_loopw [25] (fun iv wr => ∃ (i : Nat) (t : St) (ad : List Nat) (vl : Rl → Value), i ≤ N ∧ iv = .int .i64 i ∧ Hid (Ad cs (cs.take i) n t ∧ addAll cs (newS n) = addAll (cs.drop i) t) ∧ Hid (SAt wr S S ad vl t) ∧ Hid (Below w2.heap.size w2 wr) ∧ Hid (Below S w4 wr)) (fun iv _ => N - (intOf iv).toNat)
  case atStart => exact ⟨0, newS n, [], vl4, Nat.zero_le _, rfl, Lib.hid ⟨Ad.new cs (by omega), rfl⟩, H4, HB4, Lib.hid (Below.refl _ _)⟩
  case round =>
    obtain ⟨w5, hw5⟩ : ∃ w5 : World, w5 = wr := ⟨_, rfl⟩
    rw [← hw5] at hrel ⊢
    clear hw5
    obtain ⟨i, t, ad, vl, hin, rfl, HT, HA, HB5, HS5⟩ := hrel
    rcases Nat.lt_or_ge i N with hi | hi
    · have hi2 : i < cs.length := by rw [← HN.out]; exact hi
      obtain ⟨b, off, u, hAe, hu, hR⟩ := HAt.out w5 HB5.out i hi2
      have Hcm : Hid (cs[i] ∈ cs) := Lib.hid (List.getElem_mem hi2)
      have hadd := HT.out.1.add Hcm.out (F4.out _ Hcm.out)
      have hstep := addAll_step hi2 t
      have htk := List.take_succ_eq_append_getElem hi2
      rw [← htk] at hadd
      have hclen := HT.out.1.len
      rw [List.length_take] at hclen
      have hcla := HT.out.1.cl
      rw [List.length_take] at hcla
      have HA2 := Lib.hid (add_any HA.out HT.out.1.ui.shp HT.out.1.ids u cs[i] hR (by have := F3.out _ Hcm.out; omega) (by rw [HT.out.1.vars]; exact F4.out _ Hcm.out) (by have := HT.out.1.ui.tr.len; have := HT.out.1.vars; omega) t.cls.length HT.out.1.ui.wlen (by omega) (by omega))
      obtain ⟨q, hq⟩ : ∃ q, q = addS t cs[i] := ⟨_, rfl⟩
      rw [← hq] at hadd hstep HA2
      obtain ⟨t', ok⟩ := q
      simp only at hadd hstep HA2
      have Hstep := Lib.hid (HT.out.2.trans hstep)
      have Hadd := Lib.hid hadd
      subst hAe
      clear hR hadd hstep htk hq Hcm hi2 hclen hcla
      cases ok with
      | true =>
        go_wp2_with (go_at_call 43; with_reducible refine HA2.out.mono ?_; rintro e w6 ⟨rfl, ad6, vl6, h6, p6⟩; go_loud (have H6 := Lib.hid h6; have HB6 := Lib.hid (HB5.out.trans (p6.below.mono (Nat.le_trans (Nat.le_of_eq Hw2s.out) HSB.out))); have HS6 := Lib.hid (HS5.out.trans p6.below); clear h6 p6))
        go_roundw
        case rel => exact ⟨i + 1, t', ad6, vl6, by omega, by go_num, Lib.hid ⟨by simpa using Hadd.out, by simpa using Hstep.out⟩, H6, HB6, HS6⟩
        case measure => simp [intOf]; omega
      | false =>
        go_wp2_with (go_at_call 43; with_reducible refine HA2.out.mono ?_; rintro e w6 ⟨rfl, ad6, vl6, h6, p6⟩; go_loud (have HB6 := Lib.hid (HB5.out.trans (p6.below.mono (Nat.le_trans (Nat.le_of_eq Hw2s.out) HSB.out))); have r6 := heap_at_alloc (o := .cells #[.slice none 0 0] 37) (HK.out w6 HB6.out).2; obtain ⟨s0, s1, s2, s3, sf⟩ := res_at r6; have R6 := Lib.hid r6; clear h6 p6 r6))
        have hsz6 : B0 + 2 ≤ w6.heap.size := by have := HB6.out.size; rw [Hw2s.out] at this; exact this
        refine bodyPost_ret (results_row2S rfl _ _ (B0 + 1) _ _ (0, 0) _ rfl (set4R R6.out _ _ _ _) Try.underlying69 rfl (by kernel_rfl)) rfl ?_
        refine ⟨.unsat [[]] 0, _, ?_, rfl, ⟨_, rfl, reads4 RIntss.stable (one_nil (heap_alloc_new _ _) ⟨by omega, by omega, by simp⟩) _ _ _ _⟩, below4R ((HBw.out w6 HB6.out).alloc (by omega) _) (by omega) _ _ _ _⟩
        unfold SolveR
        rw [Hstep.out]
        rfl
    · obtain rfl : i = N := by omega
      have had := HT.out.1
      have hall := HT.out.2
      rw [HN.out, List.take_length] at had
      rw [HN.out, List.drop_length, addAll] at hall
      have HS := Lib.hid (search_any (fun C hC m hm => F4.out C hC m hm) HA.out (had.ctv (by rw [← HN.out]; exact f2) most) had.rb hmost (fun h => HF.out h S S))
      have Hall := Lib.hid hall
      clear had hall
      go_wp2_with (go_at_call 44; with_reducible refine HS.out.mono ?_; rintro e w6 ⟨a, v, hr, rfl, hv, b6⟩; go_loud (obtain ⟨ev, kv, A1, A2, n1, c1, n2, c2, hve⟩ := ansV_form hv; subst hve; have HR6 := Lib.hid hr; have HV6 := Lib.hid hv; have HB6 := Lib.hid b6; have r6 := (HK.out w6 (HB5.out.trans (b6.mono (Nat.le_trans (Nat.le_of_eq Hw2s.out) HSB.out)))).2; obtain ⟨s0, s1, s2, s3, sf⟩ := res_at r6; have R6 := Lib.hid r6; clear hr hv b6 r6))
      have hsb := HSB.out
      refine bodyPost_ret (results_row2S rfl _ _ (B0 + 1) _ _ (0, 0) _ rfl (set4R R6.out _ _ _ _) Try.underlying69 rfl (by kernel_rfl)) rfl ?_
      refine ⟨a, _, ?_, rfl, HV6.out.agree (ag4R (fun b hb => by have := hb.1; omega) _ _ _ _) fun b hb => ⟨by have := hb.1; omega, by simpa using hb.2⟩, below4R ((HBw.out w5 HB5.out).trans (HB6.out.mono (by omega))) (by omega) _ _ _ _⟩
      unfold SolveR
      rw [Hall.out]
      exact HR6.out
end Go.Proofs.Ytcebafeaikipmaa.S15

namespace Go.Proofs.Ytcebafeaikipmaa.S15

def Pb (n : Nat) (p : List (List Int)) : Prop := ∀ C ∈ p, ∀ m ∈ C, m ≠ 0 ∧ m.natAbs ≤ n
theorem okL_numI {n x : Nat} (h : okL n x) : numI x ≠ 0 ∧ (numI x).natAbs ≤ n := by
  unfold okL at h
  unfold numI
  split <;> omega
section
variable {cs : List (List Int)} {n most : Nat} {k : Ct} {l : List Nat} {s t : St}
theorem keepS_proof (s : St) (l : List Nat) : (keepS s l).proof = s.proof ++ [l.map numI] := by
  by_cases e : l.length = 1
  · rw [keepS_one e]; rfl
  · rw [keepS_more e]
    exact (att_att { s with proof := s.proof ++ [l.map numI] } l 0 s.clauses (s.learned ++ [s.cls.length])).proof
theorem Lrn.okl {lb K : Nat} {out : List Nat} {U : Nat → Prop} (h : Lrn s t out lb K) (hT : Tr U s) : ∀ y ∈ out, okL s.vars y := fun y hy => by
  obtain ⟨x, r, h1, h2, -, -, h5, -⟩ := h.hd
  rw [h1] at hy
  rcases List.mem_cons.1 hy with e | e
  · rw [e]; exact okL_nt (hT.ok _ h2)
  · have := okL_nt (hT.ok _ (h5 y e).1); rw [nt_nt] at this; exact this
def AnsPb (n most : Nat) : SAns → Prop
  | .unsat p _ => Pb n p ∧ p.length ≤ most + 1
  | _ => True
theorem Ctv.pb (h : Ctv cs n most k) (hp : Pb n k.st.proof) :
    match roundS most k l with
    | .inl k' => Pb n k'.st.proof
    | .inr a => AnsPb n most a := by
  rw [roundS_eq]
  obtain ⟨h1, h2, h3⟩ := h.sv.units
  cases hb : (unitsS (k.st.vars + 1) k.st).2 with
  | some c =>
    simp only
    rw [hb] at h1
    obtain ⟨s, hs⟩ : ∃ s, s = (unitsS (k.st.vars + 1) k.st).1 := ⟨_, rfl⟩
    rw [← hs] at h1 h2 h3 ⊢
    have h1' : Conf (Uc cs s) (Dc_ cs s) s c := by show Conf (Ud (cs ++ s.proof)) (Dd (cs ++ s.proof)) _ _; rw [h2.proof]; exact h1
    by_cases hm : most < k.conf + 1
    · rw [if_pos hm]; trivial
    · rw [if_neg hm]
      by_cases he : s.ends.length = 0
      · rw [if_pos he]
        refine ⟨fun C hC => ?_, ?_⟩
        · rcases List.mem_append.1 hC with q | q
          · rw [h2.proof] at q; exact hp C q
          · rw [List.mem_singleton.1 q]; simp
        · have := h3.b2; have := h.le; simp; omega
      · rw [if_neg he]
        simp only
        obtain ⟨K, hK, hl, -⟩ := conflict h1' h3 (by omega)
        intro C hC
        have hC2 : C ∈ (keepS (backS (learnS s c).1 (learnS s c).2.2) (learnS s c).2.1).proof := hC
        rw [keepS_proof, (bk_back _ _).proof, hl.fr.proof] at hC2
        rcases List.mem_append.1 hC2 with q | q
        · rw [h2.proof] at q; exact hp C q
        · rw [List.mem_singleton.1 q]
          intro m hm
          obtain ⟨y, hy, rfl⟩ := List.mem_map.1 hm
          have := hl.okl h1'.ui.tr y hy
          rw [h2.vars, h.vars] at this
          exact okL_numI this
  | none =>
    simp only
    have hr : (readyS k l).st.proof = k.st.proof := by
      unfold readyS roomS
      have h0 : (restS k (unitsS (k.st.vars + 1) k.st).1).st.proof = k.st.proof := by
        unfold restS
        split
        · exact (bk_back _ _).proof.trans h2.proof
        · exact h2.proof
      split
      · exact (forget_ok _ l).1.proof.trans h0
      · exact h0
    cases hd : decideS (readyS k l).st with
    | none => trivial
    | some t =>
      show Pb n t.proof
      have : t.proof = (readyS k l).st.proof := by
        unfold decideS at hd
        simp only at hd
        split at hd
        · cases hd
        · cases hd; rfl
      rw [this, hr]; exact hp
theorem Run.pb (hcs : ∀ C ∈ cs, ∀ m ∈ C, m ≠ 0 ∧ m.natAbs ≤ n) {a : SAns} (r : Run most k a) (h : Ctv cs n most k) (hp : Pb n k.st.proof) : AnsPb n most a := by
  induction r with
  | stop l hl e =>
    have := h.pb (l := l) hp
    rw [e] at this; exact this
  | step l hl e _ ih =>
    have := h.pb (l := l) hp
    rw [e] at this
    exact ih (h.next hcs hl e).1 this
theorem SolveR.pb (hcs : ∀ C ∈ cs, ∀ m ∈ C, m ≠ 0 ∧ m.natAbs ≤ n) (hn : n ≤ 2000) (hl : cs.length ≤ 16384) {a : SAns} (h : SolveR cs n most a) : AnsPb n most a := by
  have h0 := addAll_ok cs [] (newS n) (Ad.new cs hn) (fun _ h => h) hcs
  unfold SolveR at h
  by_cases e : (addAll cs (newS n)).2 = true
  · rw [if_pos e] at h h0
    rw [List.nil_append] at h0
    exact h.pb hcs (h0.ctv hl most) (by show Pb n (addAll cs (newS n)).1.proof; rw [h0.pf]; intro C hC; simp at hC)
  · rw [if_neg e] at h
    rw [h]
    exact ⟨by intro C hC; rw [List.mem_singleton.1 hC]; simp, by simp⟩
end
end Go.Proofs.Ytcebafeaikipmaa.S15

namespace Go.Proofs.Ytcebafeaikipmaa.S15
open Go.RowKit

theorem forget_200 {most : Nat} (h : most ≤ 200) : 200 < most → ∀ B S, ForgetOk B S := fun h2 => by omega
theorem trueL_lit {t : List Bool} {m : Int} (h0 : m ≠ 0) (h : trueL t m = true) : litTrue t m = true := by
  unfold trueL at h
  unfold litTrue
  split at h
  · rename_i h1; rw [if_pos h1]; exact h
  · rename_i h1; rw [if_neg h1, if_pos (by omega)]; exact h
theorem holds_of {cs : List (List Int)} {t : List Bool} (hcs : ∀ C ∈ cs, ∀ m ∈ C, m ≠ 0) (h : ∀ C ∈ cs, ∃ m ∈ C, trueL t m = true) : holdsI cs t = -1 := by
  unfold holdsI
  have : cs.findIdx? (fun c => !clauseTrue t c) = none := by
    rw [List.findIdx?_eq_none_iff]
    intro C hC
    obtain ⟨m, hm, hm2⟩ := h C hC
    have : clauseTrue t C = true := by
      unfold clauseTrue
      rw [List.any_eq_true]
      exact ⟨m, hm, trueL_lit (hcs C hC m hm) hm2⟩
    rw [this]; rfl
  rw [this]
/-- what a law is told of an answer -/
structure AnsAll (cs : List (List Int)) (n most : Nat) (w : World) (T : Nat → Prop) (v : Value) (a : SAns) : Prop where
  sr : SolveR cs n most a
  rd : AnsV w T v a
  ok : AnsOk cs n most a
  pb : AnsPb n most a
theorem solve_law {w : World} {n most : Nat} {s : Value} {cs : List (List Int)} (hs : RIntss w (Lt w.heap.size) s cs) (hm : satMayN n cs = 0) (hmost : most ≤ 2000000) (hF : 200 < most → ∀ B S, ForgetOk B S) :
    Calls Try.prog 36 #[.agg #[.int .i64 (n : Int), s], .int .i64 (most : Int)] w fun e w' => ∃ (a : SAns) (ev kv : Int) (A1 A2 : Option Addr) (n1 c1 n2 c2 : Nat), e = .returned (.tuple #[.agg #[.int .i64 ev, .slice A1 n1 c1, .slice A2 n2 c2, .int .i64 kv], .int .i64 0]) ∧
      AnsAll cs n most w' (fun b => w.heap.size ≤ b ∧ b < w'.heap.size) (.agg #[.int .i64 ev, .slice A1 n1 c1, .slice A2 n2 c2, .int .i64 kv]) a ∧ Below w.heap.size w w' := by
  obtain ⟨f1, f2, f3, f4⟩ := may_facts hm
  refine (solve_any hs hm hmost hF).mono ?_
  rintro e w' ⟨a, v, hr, rfl, hv, hb⟩
  obtain ⟨ev, kv, A1, A2, n1, c1, n2, c2, rfl⟩ := ansV_form hv
  exact ⟨a, ev, kv, A1, A2, n1, c1, n2, c2, rfl, ⟨hr, hv, hr.ok f4 (by omega) f2, hr.pb f4 (by omega) f2⟩, hb⟩
theorem AnsAll.nums {cs : List (List Int)} {n most : Nat} {w : World} {T : Nat → Prop} {ev kv : Int} {x y : Value} {a : SAns} (h : AnsAll cs n most w T (.agg #[.int .i64 ev, x, y, .int .i64 kv]) a) :
    0 ≤ kv ∧ kv ≤ most + 1 ∧ ((ev == 3) = (kv == (most : Int) + 1)) ∧ (ev == 3) = (match a with | .opn _ => true | _ => false) ∧ (ev == 1) = (match a with | .sat _ _ => true | _ => false) ∧ (ev == 2) = (match a with | .unsat _ _ => true | _ => false) := by
  have h1 := h.rd
  have h2 := h.ok
  cases a with
  | opn k =>
    injection h1 with e
    simp only [Array.mk.injEq, List.cons.injEq, Value.int.injEq, true_and, and_true] at e
    obtain ⟨rfl, -, -, rfl⟩ := e
    obtain rfl : k = most + 1 := h2
    refine ⟨by omega, by omega, ?_, rfl, rfl, rfl⟩
    rw [show ((most + 1 : Nat) : Int) = (most : Int) + 1 by omega]; simp
  | unsat p k =>
    obtain ⟨pv, e, -⟩ := h1
    injection e with e
    simp only [Array.mk.injEq, List.cons.injEq, Value.int.injEq, true_and, and_true] at e
    obtain ⟨rfl, -, -, rfl⟩ := e
    have h3 := h2.1
    refine ⟨by omega, by omega, ?_, rfl, rfl, rfl⟩
    symm
    exact beq_eq_false_iff_ne.2 (by omega)
  | sat t k =>
    obtain ⟨pv, e, -⟩ := h1
    injection e with e
    simp only [Array.mk.injEq, List.cons.injEq, Value.int.injEq, true_and, and_true] at e
    obtain ⟨rfl, -, -, rfl⟩ := e
    have h3 := h2.1
    refine ⟨by omega, by omega, ?_, rfl, rfl, rfl⟩
    symm
    exact beq_eq_false_iff_ne.2 (by omega)
end Go.Proofs.Ytcebafeaikipmaa.S15

namespace Go.Proofs.Ytcebafeaikipmaa.S15
open Go.RowKit

def noneV : Value := .agg #[.int .i64 0, .slice none 0 0, .slice none 0 0, .int .i64 0]
set_option maxRecDepth 100000 in
set_option maxHeartbeats 8000000 in
theorem solve_bad {w : World} {n most : Int} {s : Value} {cs : List (List Int)} (hs : RIntss w (Lt w.heap.size) s cs) (hm : satMayN n cs ≠ 0) :
    Calls Try.prog 36 #[.agg #[.int .i64 n, s], .int .i64 most] w fun e w' => e = .returned (.tuple #[noneV, .int .i64 (satMayN n cs : Nat)]) ∧ Below w.heap.size w w' := by
  obtain ⟨A, c, hse, hlm, hat⟩ := hs.open_
  have Hs := Lib.hid hs
  subst hse
  obtain ⟨E, hE⟩ : ∃ E, E = satMayN n cs := ⟨_, rfl⟩
  rw [← hE] at hm ⊢
  have HE := Lib.hid hE
  have he : ((E : Int) == 0) = false := beq_eq_false_iff_ne.2 (by omega)
  obtain ⟨N, hN⟩ : ∃ N, N = cs.length := ⟨_, rfl⟩
  have HN := Lib.hid hN
  obtain ⟨w2, hw2⟩ : ∃ w2, w2 = (w.alloc (.cells #[.int .i64 n, .slice A cs.length c] 61)).alloc (.cells #[.int .i64 0, .slice none 0 0, .slice none 0 0, .int .i64 0] 69) := ⟨_, rfl⟩
  have Hw2 := Lib.hid hw2
  obtain ⟨B0, hB0⟩ : ∃ B0, B0 = w.heap.size := ⟨_, rfl⟩
  have HB0 := Lib.hid hB0
  clear hs hE hw2 hat
  rw [← hN] at Hw2 ⊢
  rw [← hB0]
  clear hN hB0
  go_enter Try.func36, Try.ntmps36
  go_wp2_with fail
  rw [← HB0.out]
  have HM := Lib.hid (show Calls Try.prog 41 #[.agg #[.int .i64 n, .slice A N c]] w2 fun e w' => e = .returned (.int .i64 (E : Nat)) ∧ Below w2.heap.size w2 w' by
    have := satMay_any n (.slice A cs.length c) cs w2 (by rw [Hw2.out]; exact RIntss.stable.up (RIntss.stable.up Hs.out (below_alloc _ _)) (below_alloc _ _))
    rw [← HE.out, ← HN.out] at this
    exact this)
  rw [HB0.out, ← Hw2.out, ← HB0.out]
  have HK := Lib.hid (fun (W : World) (h : Below w2.heap.size w2 W) => show W.heap[B0 + 1]? = some (.cells #[.int .i64 0, .slice none 0 0, .slice none 0 0, .int .i64 0] 69 (0, 0)) ∧ Below B0 w W by
    rw [Hw2.out] at h
    rw [HB0.out]
    constructor
    · rw [h.block _ (by simp)]
      have := heap_alloc_new (w.alloc (.cells #[.int .i64 n, .slice A N c] 61)) (.cells #[.int .i64 0, .slice none 0 0, .slice none 0 0, .int .i64 0] 69)
      rwa [World.size_alloc] at this
    · exact ((below_alloc w _).trans ((below_alloc _ _).mono (by simp))).trans (h.mono (by simp; omega)))
  go_wp2_with (go_at_call 41; with_reducible refine HM.out.mono ?_; rintro e w3 ⟨rfl, b3⟩; go_loud (have HB3 := Lib.hid b3; have r3 := (HK.out w3 b3).1; obtain ⟨s0, s1, s2, s3, sf⟩ := res_at r3; have R3 := Lib.hid r3; clear b3 r3))
  refine bodyPost_ret (results_row2S rfl _ _ (B0 + 1) _ _ (0, 0) _ rfl (set4R R3.out _ _ _ _) Try.underlying69 rfl (by kernel_rfl)) rfl ?_
  exact ⟨rfl, below4R (HK.out w3 HB3.out).2 (by omega) _ _ _ _⟩
set_option maxRecDepth 100000 in
set_option maxHeartbeats 8000000 in
theorem solve_neg {w : World} {n most : Int} {s : Value} {cs : List (List Int)} (hs : RIntss w (Lt w.heap.size) s cs) (hm : satMayN n cs = 0) (hmost : most < 0) :
    Calls Try.prog 36 #[.agg #[.int .i64 n, s], .int .i64 most] w fun e w' => e = .returned (.tuple #[noneV, .int .i64 1]) ∧ Below w.heap.size w w' := by
  obtain ⟨A, c, hse, hlm, hat⟩ := hs.open_
  have Hs := Lib.hid hs
  subst hse
  have HE := Lib.hid hm
  have he : decide (most < 0) = true := decide_eq_true hmost
  obtain ⟨N, hN⟩ : ∃ N, N = cs.length := ⟨_, rfl⟩
  have HN := Lib.hid hN
  obtain ⟨w2, hw2⟩ : ∃ w2, w2 = (w.alloc (.cells #[.int .i64 n, .slice A cs.length c] 61)).alloc (.cells #[.int .i64 0, .slice none 0 0, .slice none 0 0, .int .i64 0] 69) := ⟨_, rfl⟩
  have Hw2 := Lib.hid hw2
  obtain ⟨B0, hB0⟩ : ∃ B0, B0 = w.heap.size := ⟨_, rfl⟩
  have HB0 := Lib.hid hB0
  clear hs hm hw2 hat
  rw [← hN] at Hw2 ⊢
  rw [← hB0]
  clear hN hB0
  go_enter Try.func36, Try.ntmps36
  go_wp2_with fail
  rw [← HB0.out]
  have HM := Lib.hid (show Calls Try.prog 41 #[.agg #[.int .i64 n, .slice A N c]] w2 fun e w' => e = .returned (.int .i64 0) ∧ Below w2.heap.size w2 w' by
    have := satMay_any n (.slice A cs.length c) cs w2 (by rw [Hw2.out]; exact RIntss.stable.up (RIntss.stable.up Hs.out (below_alloc _ _)) (below_alloc _ _))
    rw [HE.out, ← HN.out] at this
    exact this)
  rw [HB0.out, ← Hw2.out, ← HB0.out]
  have HK := Lib.hid (fun (W : World) (h : Below w2.heap.size w2 W) => show W.heap[B0 + 1]? = some (.cells #[.int .i64 0, .slice none 0 0, .slice none 0 0, .int .i64 0] 69 (0, 0)) ∧ Below B0 w W by
    rw [Hw2.out] at h
    rw [HB0.out]
    constructor
    · rw [h.block _ (by simp)]
      have := heap_alloc_new (w.alloc (.cells #[.int .i64 n, .slice A N c] 61)) (.cells #[.int .i64 0, .slice none 0 0, .slice none 0 0, .int .i64 0] 69)
      rwa [World.size_alloc] at this
    · exact ((below_alloc w _).trans ((below_alloc _ _).mono (by simp))).trans (h.mono (by simp; omega)))
  go_wp2_with (go_at_call 41; with_reducible refine HM.out.mono ?_; rintro e w3 ⟨rfl, b3⟩; go_loud (have HB3 := Lib.hid b3; have r3 := (HK.out w3 b3).1; obtain ⟨s0, s1, s2, s3, sf⟩ := res_at r3; have R3 := Lib.hid r3; clear b3 r3))
  refine bodyPost_ret (results_row2S rfl _ _ (B0 + 1) _ _ (0, 0) _ rfl (set4R R3.out _ _ _ _) Try.underlying69 rfl (by kernel_rfl)) rfl ?_
  exact ⟨rfl, below4R (HK.out w3 HB3.out).2 (by omega) _ _ _ _⟩
end Go.Proofs.Ytcebafeaikipmaa.S15
