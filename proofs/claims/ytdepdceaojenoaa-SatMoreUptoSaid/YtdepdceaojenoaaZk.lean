/- Which questions may be (sat.May). / Solve. / Solve where there is no question, or no limit. / .. -/
import Derived.ChangeSame
import Derived.Test.YtdepdceaojenoaaZa
import Derived.Test.YtdepdceaojenoaaZb
import Derived.Test.YtdepdceaojenoaaZe
import Derived.Test.YtdepdceaojenoaaZj
import Derived.Test.YtdepdceaojenoaaZl
namespace Go.Proofs.Ytdepdceaojenoaa
open Go.RowKit

def badLit (v : Int) (x : Int) : Bool := x == 0 || decide (v < x) || decide (x < -v)
def satMayN (v : Int) (cls : List (List Int)) : Nat :=
  if 1024 < v ∨ 16384 < cls.length then 2 else if cls.any (fun c => decide (2048 < c.length)) then 2 else if v < 0 then 1 else if cls.any (fun c => c.any (badLit v)) then 1 else 0

set_option maxHeartbeats 1000000 in
theorem satMay_any (v : Int) (s : Value) (cls : List (List Int)) (w : World) (hs : RIntss w (Lt w.heap.size) s cls) :
    Calls Try.prog 11 #[.agg #[.int .i64 v, s]] w fun e w' => e = .returned (.int .i64 (satMayN v cls : Nat)) ∧ Below w.heap.size w w' := by
  obtain ⟨A, c, rfl, hm, hat⟩ := hs.open_
  have hb : Below w.heap.size w (w.alloc (.cells #[.int .i64 v, .slice A cls.length c] 24)) := (Below.refl _ _).alloc (Nat.le_refl _) _
  have Hb := Lib.hid hb; clear hb
  have Hat := Lib.hid hat; clear hat
  by_cases h1 : 1024 < v
  · have Hd := Lib.hid (show (2 : Int) = (satMayN v cls : Nat) by simp [satMayN, h1])
    go_enter Try.func11, Try.ntmps11
    go_wp2
    go_ret
    exact ⟨ret_int Hd.out, Hb.out⟩
  by_cases h2 : 16384 < cls.length
  · have Hd := Lib.hid (show (2 : Int) = (satMayN v cls : Nat) by simp [satMayN, h1, h2])
    go_enter Try.func11, Try.ntmps11
    go_wp2
    go_ret
    exact ⟨ret_int Hd.out, Hb.out⟩
  have Hn := Lib.hid (show satMayN v cls = if cls.any (fun c => decide (2048 < c.length)) then 2 else if v < 0 then 1 else if cls.any (fun c => c.any (badLit v)) then 1 else 0 by simp only [satMayN]; rw [if_neg (by omega)])
  go_enter Try.func11, Try.ntmps11
  go_wp2
  go_loop [21] (fun sv => ∃ k : Nat, k ≤ (cls).length ∧ sv = .int .i64 k ∧ Hid ((cls.take k).any (fun c => decide (2048 < c.length)) = false)) (fun sv => (cls).length - (intOf sv).toNat)
  case atStart => exact ⟨0, Nat.zero_le _, rfl, hid_nil_any _ _⟩
  case round =>
    obtain ⟨k, hkle, rfl, hkinv⟩ := hrel
    by_cases hklt : k < (cls).length
    · obtain ⟨bk, offk, uk, rfl, hbk, hcellk, huk⟩ := Hat.out.lt_ hklt
      obtain ⟨A2, c2, rfl, hm2, hat2⟩ := huk.open_
      clear hat2
      by_cases h3 : 2048 < cls[k].length
      · have hbig : cls.any (fun c => decide (2048 < c.length)) = true := any_at (h := hklt) (by simpa using h3)
        have Hd := Lib.hid (show (2 : Int) = (satMayN v cls : Nat) by rw [Hn.out, hbig]; rfl)
        clear hbig
        go_wp2
        go_ret
        exact ⟨ret_int Hd.out, Hb.out⟩
      · go_wp2
        go_round
        case rel => exact ⟨k + 1, by omega, by go_num, (hid_any_succ hklt hkinv (by simpa using h3))⟩
        case measure => simp [intOf]; omega
    · obtain rfl : k = (cls).length := by omega
      have hnb := hid_any_end hkinv
      clear hkinv
      by_cases h4 : v < 0
      · have Hd := Lib.hid (show (1 : Int) = (satMayN v cls : Nat) by rw [Hn.out, hnb, if_pos h4]; rfl)
        clear hnb
        go_wp2
        go_ret
        exact ⟨ret_int Hd.out, Hb.out⟩
      have Hn2 := Lib.hid (show satMayN v cls = if cls.any (fun c => c.any (badLit v)) then 1 else 0 by rw [Hn.out, hnb, if_neg h4]; rfl)
      clear hnb
      go_wp2
      go_loop [35] (fun sv => ∃ i : Nat, i ≤ (cls).length ∧ sv = .int .i64 i ∧ Hid ((cls.take i).any (fun c => c.any (badLit v)) = false)) (fun sv => (cls).length - (intOf sv).toNat)
      case atStart => exact ⟨0, Nat.zero_le _, rfl, hid_nil_any _ _⟩
      case round =>
        obtain ⟨i, hile, rfl, hiinv⟩ := hrel
        by_cases hilt : i < (cls).length
        · obtain ⟨bi, offi, ui, rfl, hbi, hcelli, hui⟩ := Hat.out.lt_ hilt
          obtain ⟨A2, c2, rfl, hm2, hat2⟩ := hui.open_
          have Hat2 := Lib.hid hat2; clear hat2
          go_wp2
          go_loop [41] (fun sv => ∃ j : Nat, j ≤ (cls[i]).length ∧ sv = .int .i64 j ∧ Hid ((cls[i].take j).any (badLit v) = false)) (fun sv => (cls[i]).length - (intOf sv).toNat)
          case atStart => exact ⟨0, Nat.zero_le _, rfl, hid_nil_any _ _⟩
          case round =>
            obtain ⟨j, hjle, rfl, hjinv⟩ := hrel
            by_cases hjlt : j < (cls[i]).length
            · obtain ⟨bj, offj, uj, rfl, hbj, hcellj, huj⟩ := Hat2.out.lt_ hjlt
              obtain rfl := huj
              cases hx : badLit v cls[i][j] with
              | true =>
                have hbad : cls.any (fun c => c.any (badLit v)) = true := any_at (h := hilt) (any_at (h := hjlt) hx)
                have Hd := Lib.hid (show (1 : Int) = (satMayN v cls : Nat) by rw [Hn2.out, hbad]; rfl)
                clear hbad
                simp only [badLit, Bool.or_eq_true, beq_iff_eq, decide_eq_true_eq] at hx
                by_cases hx0 : cls[i][j] = 0
                · have hx0' : (cls[i][j] == 0) = true := by simp [hx0]
                  clear hx hx0
                  go_wp2
                  go_ret
                  exact ⟨ret_int Hd.out, Hb.out⟩
                have hx0' : (cls[i][j] == 0) = false := by simp [hx0]
                by_cases hx1 : v < cls[i][j]
                · clear hx hx0
                  go_wp2
                  go_ret
                  exact ⟨ret_int Hd.out, Hb.out⟩
                have hx2 : cls[i][j] < -v := by omega
                clear hx hx0
                go_wp2
                go_ret
                exact ⟨ret_int Hd.out, Hb.out⟩
              | false =>
                have Hx := Lib.hid hx
                simp only [badLit, Bool.or_eq_false_iff, beq_eq_false_iff_ne, decide_eq_false_iff_not] at hx
                have hx0 : (cls[i][j] == 0) = false := by simp [hx.1.1]
                have hx1 := hx.1.2
                have hx2 := hx.2
                clear hx
                go_wp2
                go_round
                case rel => exact ⟨j + 1, by omega, by go_num, (hid_any_succ hjlt hjinv Hx.out)⟩
                case measure => simp [intOf]; omega
            · obtain rfl : j = (cls[i]).length := by omega
              go_wp2
              go_round
              case rel => exact ⟨i + 1, by omega, by go_num, (hid_any_succ hilt hiinv (hid_any_end hjinv))⟩
              case measure => simp [intOf]; omega
        · obtain rfl : i = (cls).length := by omega
          go_wp2
          go_ret
          exact ⟨ret_int (by rw [Hn2.out, hid_any_end hiinv]; rfl), Hb.out⟩
end Go.Proofs.Ytdepdceaojenoaa

namespace Go.Proofs.Ytdepdceaojenoaa
open Go.RowKit

theorem may_facts {n : Nat} {cs : List (List Int)} (h : satMayN n cs = 0) : n ≤ 1024 ∧ cs.length ≤ 16384 ∧ (∀ c ∈ cs, c.length ≤ 2048) ∧ ∀ c ∈ cs, ∀ z ∈ c, z ≠ 0 ∧ z.natAbs ≤ n := by
  unfold satMayN at h
  split at h
  · cases h
  · split at h
    · cases h
    · split at h
      · cases h
      · split at h
        · cases h
        · rename_i h1 h2 h3 h4
          refine ⟨by omega, by omega, fun c hc => ?_, fun c hc z hz => ?_⟩
          · simp only [Bool.not_eq_true, List.any_eq_false, decide_eq_true_eq] at h2
            have := h2 c hc; omega
          · simp only [Bool.not_eq_true, List.any_eq_false] at h4
            have := h4 c hc
            have := this z hz
            unfold badLit at this
            simp at this
            omega
theorem ansV_form {w : World} {S : Nat → Prop} {v : Value} {a : SAns} (h : AnsV w S v a) : ∃ (e k : Int) (A1 A2 : Option Addr) (n1 c1 n2 c2 : Nat), v = .agg #[.int .i64 e, .slice A1 n1 c1, .slice A2 n2 c2, .int .i64 k] := by
  cases a with
  | opn k => exact ⟨_, _, _, _, _, _, _, _, h⟩
  | unsat p k =>
    obtain ⟨pv, rfl, A, c, rfl, -⟩ := h
    exact ⟨_, _, _, _, _, _, _, _, rfl⟩
  | sat t k =>
    obtain ⟨pv, rfl, A, c, rfl, -⟩ := h
    exact ⟨_, _, _, _, _, _, _, _, rfl⟩
theorem AnsV.agree {w w' : World} {S S' : Nat → Prop} {v : Value} {a : SAns} (h : AnsV w S v a) (hg : Ag S w w') (hs : ∀ b, S b → S' b) : AnsV w' S' v a := by
  cases a with
  | opn k => exact h
  | unsat p k => obtain ⟨pv, h1, h2⟩ := h; exact ⟨pv, h1, RIntss.stable _ _ _ _ _ _ h2 hg hs⟩
  | sat t k => obtain ⟨pv, h1, h2⟩ := h; exact ⟨pv, h1, RBools.stable _ _ _ _ _ _ h2 hg hs⟩
theorem ag4R {S : Nat → Prop} {w : World} {rb : Nat} (h : ∀ b, S b → b ≠ rb) (x y z u : Value) : Ag S w ((((w.setCell ⟨rb, 0, none⟩ x).setCell ⟨rb, 1, none⟩ y).setCell ⟨rb, 2, none⟩ z).setCell ⟨rb, 3, none⟩ u) := by
  have a1 : ∀ (w : World) (j : Nat) (q : Value), Ag (fun b => b ≠ rb) w (w.setCell ⟨rb, j, none⟩ q) := fun w j q => ag_setCell w ⟨rb, j, none⟩ q
  exact ((((a1 _ _ _).trans (a1 _ _ _)).trans (a1 _ _ _)).trans (a1 _ _ _)).sub h
theorem results_row2S {P : Program} {fn : Func} {p u : Tmp} {ty : TypeId} (h : fn.results = #[.cell p ty, .tmp u]) (tmps : Array Value) (w : World) (g : Nat) (t : TypeId) (cs : Array Value) (fr : Nat × Nat) (d : TypeDesc)
    (hp : tmps.getD p undef = .pointer (some ⟨g, 0, none⟩)) (hg : w.heap[g]? = some (.cells cs t fr))
    (hu : P.underlying ty = some d) (hd : (match d with | .struct _ | .array _ _ => true | _ => false) = true) (hi : (P.info? ty).map (·.size) = some cs.size) :
    (results fn tmps).run P w = .ok (.tuple #[.agg cs, tmps.getD u undef]) w := by
  have hp' : tmps[p]?.getD undef = .pointer (some ⟨g, 0, none⟩) := by simpa using hp
  rw [results_cell_tmp h, hp]
  simp [asAddr, Result.andThen, run_loadVar_row w g t ty cs fr d hg hu hd hi]
theorem Ad.ids {cs dn : List (List Int)} {n : Nat} {s : St} (h : Ad cs dn n s) : Ids s := ⟨h.ic, by rw [h.ln]; simp, fun i c hc => (h.ui.wa.of i c hc).1, h.rb⟩
theorem addAll_step {cs : List (List Int)} {i : Nat} (hi : i < cs.length) (t : St) : addAll (cs.drop i) t = if (addS t cs[i]).2 = true then addAll (cs.drop (i + 1)) (addS t cs[i]).1 else ((addS t cs[i]).1, false) := by
  rw [List.drop_eq_getElem_cons hi, addAll]
  cases h : addS t cs[i] with
  | mk s b => cases b <;> rfl
theorem one_nil {w : World} {t : TypeId} {T : Nat → Prop} {g : Nat} (h : w.heap[g]? = some (.cells #[.slice none 0 0] t (0, 0))) (hT : T g) : RIntss w T (.slice (some ⟨g, 0, none⟩) 1 1) [[]] := by
  refine ⟨some ⟨g, 0, none⟩, 1, rfl, Nat.le_refl _, by unfold maxLen; omega, fun _ => ⟨g, 0, rfl, hT, fun k hk => ?_⟩⟩
  have : k = 0 := by simpa using hk
  subst this
  exact ⟨.slice none 0 0, cell_of_row _ _ 0 _ _ (0, 0) h, RSl.nil_ _ _ _⟩
set_option maxRecDepth 100000 in
set_option maxHeartbeats 8000000 in
theorem solve_any {w : World} {n most : Nat} {s : Value} {cs : List (List Int)} (hs : RIntss w (Lt w.heap.size) s cs) (hm : satMayN n cs = 0) (hmost : most ≤ 2000000) (hF : 200 < most → ∀ B S, ForgetOk B S) :
    Calls Try.prog 12 #[.agg #[.int .i64 (n : Int), s], .int .i64 (most : Int)] w fun e w' => ∃ a v, SolveR cs n most a ∧ e = .returned (.tuple #[v, .int .i64 0]) ∧ AnsV w' (fun b => w.heap.size ≤ b ∧ b < w'.heap.size) v a ∧ Below w.heap.size w w' := by
  obtain ⟨f1, f2, f3, f4⟩ := may_facts hm
  obtain ⟨A, c, hse, hlm, hat⟩ := hs.open_
  have Hs := Lib.hid hs
  have Hm := Lib.hid hm
  have HF := Lib.hid hF
  have F3 := Lib.hid f3
  have F4 := Lib.hid f4
  have Hat := Lib.hid hat
  subst hse
  obtain ⟨B0, hB0⟩ : ∃ B0, B0 = w.heap.size := ⟨_, rfl⟩
  have HB0 := Lib.hid hB0
  obtain ⟨N, hN⟩ : ∃ N, N = cs.length := ⟨_, rfl⟩
  have HN := Lib.hid hN
  rw [← hN] at f2
  have hz0 : decide ((most : Int) < 0) = false := decide_eq_false (by omega)
  obtain ⟨w2, hw2⟩ : ∃ w2, w2 = (w.alloc (.cells #[.int .i64 (n : Int), .slice A cs.length c] 24)).alloc (.cells #[.int .i64 0, .slice none 0 0, .slice none 0 0, .int .i64 0] 33) := ⟨_, rfl⟩
  have Hw2 := Lib.hid hw2
  clear hm hF f3 f4 hat hs hw2
  rw [← hN] at Hw2 ⊢
  rw [← hB0]
  clear hB0 hN
  go_enter Try.func12, Try.ntmps12
  go_wp2_with fail
  rw [← HB0.out]
  have HM := Lib.hid (show Calls Try.prog 11 #[.agg #[.int .i64 (n : Int), .slice A N c]] w2 fun e w' => e = .returned (.int .i64 0) ∧ Below w2.heap.size w2 w' by
    have := satMay_any n (.slice A cs.length c) cs w2 (by rw [Hw2.out]; exact RIntss.stable.up (RIntss.stable.up Hs.out (below_alloc _ _)) (below_alloc _ _))
    rw [Hm.out, ← HN.out] at this
    exact this)
  rw [HB0.out, ← Hw2.out, ← HB0.out]
  have hw2s : w2.heap.size = B0 + 2 := by rw [Hw2.out, HB0.out]; simp
  have Hw2s := Lib.hid hw2s
  clear hw2s
  have HK := Lib.hid (fun (W : World) (h : Below w2.heap.size w2 W) => show (W.cell? ⟨B0, 0, none⟩ = some (.int .i64 (n : Int)) ∧ W.cell? ⟨B0, 1, none⟩ = some (.slice A N c)) ∧ W.heap[B0 + 1]? = some (.cells #[.int .i64 0, .slice none 0 0, .slice none 0 0, .int .i64 0] 33 (0, 0)) by
    rw [Hw2.out] at h
    rw [HB0.out]
    refine ⟨⟨box_a h 0, box_a h 1⟩, ?_⟩
    rw [h.block _ (by simp)]
    have := heap_alloc_new (w.alloc (.cells #[.int .i64 (n : Int), .slice A N c] 24)) (.cells #[.int .i64 0, .slice none 0 0, .slice none 0 0, .int .i64 0] 33)
    rwa [World.size_alloc] at this)
  go_wp2_with (first
    | (go_at_call 11; with_reducible refine HM.out.mono ?_; rintro e w3 ⟨rfl, b3⟩; go_loud (have HB3 := Lib.hid b3; obtain ⟨⟨k0, k1⟩, -⟩ := HK.out w3 b3; clear b3))
    | (go_at_call 18; with_reducible refine (newSolver_any n (by omega) w3).mono ?_; rintro e w4 ⟨vl4, rfl, h4, b4⟩; go_loud (have H4 := Lib.hid h4; have HB4 := Lib.hid (HB3.out.trans (b4.mono HB3.out.size)); have HBS4 := Lib.hid b4; clear k0 k1; obtain ⟨⟨k0, k1⟩, -⟩ := HK.out w4 (HB3.out.trans (b4.mono HB3.out.size)); clear h4 b4)))
  have HSB : Hid (B0 + 2 ≤ w3.heap.size) := Lib.hid (by have := HB3.out.size; rw [Hw2s.out] at this; exact this)
  obtain ⟨S, hS⟩ : ∃ S, S = w3.heap.size := ⟨_, rfl⟩
  rw [← hS] at H4 HBS4 HSB
  rw [← hS]
  clear hS
  clear k0 k1
  have HAt := Lib.hid (fun (W : World) (h : Below w2.heap.size w2 W) (i : Nat) (hi : i < cs.length) => show ∃ b off u, A = some ⟨b, off, none⟩ ∧ W.cell? ⟨b, off + i, none⟩ = some u ∧ RInts W (Lt S) u cs[i] by
    have hb : Below w.heap.size w W := by
      rw [Hw2.out] at h
      exact ((below_alloc w _).trans ((below_alloc _ _).mono (by simp))).trans (h.mono (by simp; omega))
    obtain ⟨b, off, u, e, h1, h2, h3⟩ := Hat.out.at_ RInts.stable (ag_of_below hb) hi
    exact ⟨b, off, u, e, h2, RInts.stable.sub h3 fun b (hb : b < _) => (by have := HSB.out; have := HB0.out; show b < S; omega)⟩)
  have HBw := Lib.hid (fun (W : World) (h : Below w2.heap.size w2 W) => show Below B0 w W by
    rw [Hw2.out] at h
    rw [HB0.out]
    exact ((below_alloc w _).trans ((below_alloc _ _).mono (by simp))).trans (h.mono (by simp; omega)))
  go_loopw [25] (fun iv wr => ∃ (i : Nat) (t : St) (ad : List Nat) (vl : Rl → Value), i ≤ N ∧ iv = .int .i64 i ∧ Hid (Ad cs (cs.take i) n t ∧ addAll cs (newS n) = addAll (cs.drop i) t) ∧ Hid (SAt wr S S ad vl t) ∧ Hid (Below w2.heap.size w2 wr) ∧ Hid (Below S w4 wr)) (fun iv _ => N - (intOf iv).toNat)
  case atStart => exact ⟨0, newS n, [], vl4, Nat.zero_le _, rfl, Lib.hid ⟨Ad.new cs (by omega), rfl⟩, H4, HB4, Lib.hid (Below.refl _ _)⟩
  case round =>
    obtain ⟨w5, hw5⟩ : ∃ w5 : World, w5 = wr := ⟨_, rfl⟩
    rw [← hw5] at hrel ⊢
    clear hw5
    obtain ⟨i, t, ad, vl, hin, rfl, HT, HA, HB5, HS5⟩ := hrel
    rcases Nat.lt_or_ge i N with hi | hi
    · have hi2 : i < cs.length := by rw [← HN.out]; exact hi
      obtain ⟨b, off, u, hAe, hu, hR⟩ := HAt.out w5 HB5.out i hi2
      have Hcm : Hid (cs[i] ∈ cs) := Lib.hid (List.getElem_mem hi2)
      have hadd := HT.out.1.add Hcm.out (F4.out _ Hcm.out)
      have hstep := addAll_step hi2 t
      have htk := List.take_succ_eq_append_getElem hi2
      rw [← htk] at hadd
      have hclen := HT.out.1.len
      rw [List.length_take] at hclen
      have hcla := HT.out.1.cl
      rw [List.length_take] at hcla
      have HA2 := Lib.hid (add_any HA.out HT.out.1.ui.shp HT.out.1.ids u cs[i] hR (by have := F3.out _ Hcm.out; omega) (by rw [HT.out.1.vars]; exact F4.out _ Hcm.out) (by have := HT.out.1.ui.tr.len; have := HT.out.1.vars; omega) t.cls.length HT.out.1.ui.wlen (by omega) (by omega))
      obtain ⟨q, hq⟩ : ∃ q, q = addS t cs[i] := ⟨_, rfl⟩
      rw [← hq] at hadd hstep HA2
      obtain ⟨t', ok⟩ := q
      simp only at hadd hstep HA2
      have Hstep := Lib.hid (HT.out.2.trans hstep)
      have Hadd := Lib.hid hadd
      subst hAe
      clear hR hadd hstep htk hq Hcm hi2 hclen hcla
      cases ok with
      | true =>
        go_wp2_with (go_at_call 19; with_reducible refine HA2.out.mono ?_; rintro e w6 ⟨rfl, ad6, vl6, h6, p6⟩; go_loud (have H6 := Lib.hid h6; have HB6 := Lib.hid (HB5.out.trans (p6.below.mono (Nat.le_trans (Nat.le_of_eq Hw2s.out) HSB.out))); have HS6 := Lib.hid (HS5.out.trans p6.below); clear h6 p6))
        go_roundw
        case rel => exact ⟨i + 1, t', ad6, vl6, by omega, by go_num, Lib.hid ⟨by simpa using Hadd.out, by simpa using Hstep.out⟩, H6, HB6, HS6⟩
        case measure => simp [intOf]; omega
      | false =>
        go_wp2_with (go_at_call 19; with_reducible refine HA2.out.mono ?_; rintro e w6 ⟨rfl, ad6, vl6, h6, p6⟩; go_loud (have HB6 := Lib.hid (HB5.out.trans (p6.below.mono (Nat.le_trans (Nat.le_of_eq Hw2s.out) HSB.out))); have r6 := heap_at_alloc (o := .cells #[.slice none 0 0] 26) (HK.out w6 HB6.out).2; obtain ⟨s0, s1, s2, s3, sf⟩ := res_at r6; have R6 := Lib.hid r6; clear h6 p6 r6))
        have hsz6 : B0 + 2 ≤ w6.heap.size := by have := HB6.out.size; rw [Hw2s.out] at this; exact this
        refine bodyPost_ret (results_row2S rfl _ _ (B0 + 1) _ _ (0, 0) _ rfl (set4R R6.out _ _ _ _) Try.underlying33 rfl (by kernel_rfl)) rfl ?_
        refine ⟨.unsat [[]] 0, _, ?_, rfl, ⟨_, rfl, reads4 RIntss.stable (one_nil (heap_alloc_new _ _) ⟨by omega, by omega, by simp⟩) _ _ _ _⟩, below4R ((HBw.out w6 HB6.out).alloc (by omega) _) (by omega) _ _ _ _⟩
        unfold SolveR
        rw [Hstep.out]
        rfl
    · obtain rfl : i = N := by omega
      have had := HT.out.1
      have hall := HT.out.2
      rw [HN.out, List.take_length] at had
      rw [HN.out, List.drop_length, addAll] at hall
      have HS := Lib.hid (search_any (fun C hC m hm => F4.out C hC m hm) HA.out (had.ctv (by rw [← HN.out]; exact f2) most) had.rb hmost (fun h => HF.out h S S))
      have Hall := Lib.hid hall
      clear had hall
      go_wp2_with (go_at_call 20; with_reducible refine HS.out.mono ?_; rintro e w6 ⟨a, v, hr, rfl, hv, b6⟩; go_loud (obtain ⟨ev, kv, A1, A2, n1, c1, n2, c2, hve⟩ := ansV_form hv; subst hve; have HR6 := Lib.hid hr; have HV6 := Lib.hid hv; have HB6 := Lib.hid b6; have r6 := (HK.out w6 (HB5.out.trans (b6.mono (Nat.le_trans (Nat.le_of_eq Hw2s.out) HSB.out)))).2; obtain ⟨s0, s1, s2, s3, sf⟩ := res_at r6; have R6 := Lib.hid r6; clear hr hv b6 r6))
      have hsb := HSB.out
      refine bodyPost_ret (results_row2S rfl _ _ (B0 + 1) _ _ (0, 0) _ rfl (set4R R6.out _ _ _ _) Try.underlying33 rfl (by kernel_rfl)) rfl ?_
      refine ⟨a, _, ?_, rfl, HV6.out.agree (ag4R (fun b hb => by have := hb.1; omega) _ _ _ _) fun b hb => ⟨by have := hb.1; omega, by simpa using hb.2⟩, below4R ((HBw.out w5 HB5.out).trans (HB6.out.mono (by omega))) (by omega) _ _ _ _⟩
      unfold SolveR
      rw [Hall.out]
      exact HR6.out
end Go.Proofs.Ytdepdceaojenoaa

namespace Go.Proofs.Ytdepdceaojenoaa
open Go.RowKit

def noneV : Value := .agg #[.int .i64 0, .slice none 0 0, .slice none 0 0, .int .i64 0]
set_option maxRecDepth 100000 in
set_option maxHeartbeats 8000000 in
theorem solve_bad {w : World} {n most : Int} {s : Value} {cs : List (List Int)} (hs : RIntss w (Lt w.heap.size) s cs) (hm : satMayN n cs ≠ 0) :
    Calls Try.prog 12 #[.agg #[.int .i64 n, s], .int .i64 most] w fun e w' => e = .returned (.tuple #[noneV, .int .i64 (satMayN n cs : Nat)]) ∧ Below w.heap.size w w' := by
  obtain ⟨A, c, hse, hlm, hat⟩ := hs.open_
  have Hs := Lib.hid hs
  subst hse
  obtain ⟨E, hE⟩ : ∃ E, E = satMayN n cs := ⟨_, rfl⟩
  rw [← hE] at hm ⊢
  have HE := Lib.hid hE
  have he : ((E : Int) == 0) = false := beq_eq_false_iff_ne.2 (by omega)
  obtain ⟨N, hN⟩ : ∃ N, N = cs.length := ⟨_, rfl⟩
  have HN := Lib.hid hN
  obtain ⟨w2, hw2⟩ : ∃ w2, w2 = (w.alloc (.cells #[.int .i64 n, .slice A cs.length c] 24)).alloc (.cells #[.int .i64 0, .slice none 0 0, .slice none 0 0, .int .i64 0] 33) := ⟨_, rfl⟩
  have Hw2 := Lib.hid hw2
  obtain ⟨B0, hB0⟩ : ∃ B0, B0 = w.heap.size := ⟨_, rfl⟩
  have HB0 := Lib.hid hB0
  clear hs hE hw2 hat
  rw [← hN] at Hw2 ⊢
  rw [← hB0]
  clear hN hB0
  go_enter Try.func12, Try.ntmps12
  go_wp2_with fail
  rw [← HB0.out]
  have HM := Lib.hid (show Calls Try.prog 11 #[.agg #[.int .i64 n, .slice A N c]] w2 fun e w' => e = .returned (.int .i64 (E : Nat)) ∧ Below w2.heap.size w2 w' by
    have := satMay_any n (.slice A cs.length c) cs w2 (by rw [Hw2.out]; exact RIntss.stable.up (RIntss.stable.up Hs.out (below_alloc _ _)) (below_alloc _ _))
    rw [← HE.out, ← HN.out] at this
    exact this)
  rw [HB0.out, ← Hw2.out, ← HB0.out]
  have HK := Lib.hid (fun (W : World) (h : Below w2.heap.size w2 W) => show W.heap[B0 + 1]? = some (.cells #[.int .i64 0, .slice none 0 0, .slice none 0 0, .int .i64 0] 33 (0, 0)) ∧ Below B0 w W by
    rw [Hw2.out] at h
    rw [HB0.out]
    constructor
    · rw [h.block _ (by simp)]
      have := heap_alloc_new (w.alloc (.cells #[.int .i64 n, .slice A N c] 24)) (.cells #[.int .i64 0, .slice none 0 0, .slice none 0 0, .int .i64 0] 33)
      rwa [World.size_alloc] at this
    · exact ((below_alloc w _).trans ((below_alloc _ _).mono (by simp))).trans (h.mono (by simp; omega)))
  go_wp2_with (go_at_call 11; with_reducible refine HM.out.mono ?_; rintro e w3 ⟨rfl, b3⟩; go_loud (have HB3 := Lib.hid b3; have r3 := (HK.out w3 b3).1; obtain ⟨s0, s1, s2, s3, sf⟩ := res_at r3; have R3 := Lib.hid r3; clear b3 r3))
  refine bodyPost_ret (results_row2S rfl _ _ (B0 + 1) _ _ (0, 0) _ rfl (set4R R3.out _ _ _ _) Try.underlying33 rfl (by kernel_rfl)) rfl ?_
  exact ⟨rfl, below4R (HK.out w3 HB3.out).2 (by omega) _ _ _ _⟩
set_option maxRecDepth 100000 in
set_option maxHeartbeats 8000000 in
theorem solve_neg {w : World} {n most : Int} {s : Value} {cs : List (List Int)} (hs : RIntss w (Lt w.heap.size) s cs) (hm : satMayN n cs = 0) (hmost : most < 0) :
    Calls Try.prog 12 #[.agg #[.int .i64 n, s], .int .i64 most] w fun e w' => e = .returned (.tuple #[noneV, .int .i64 1]) ∧ Below w.heap.size w w' := by
  obtain ⟨A, c, hse, hlm, hat⟩ := hs.open_
  have Hs := Lib.hid hs
  subst hse
  have HE := Lib.hid hm
  have he : decide (most < 0) = true := decide_eq_true hmost
  obtain ⟨N, hN⟩ : ∃ N, N = cs.length := ⟨_, rfl⟩
  have HN := Lib.hid hN
  obtain ⟨w2, hw2⟩ : ∃ w2, w2 = (w.alloc (.cells #[.int .i64 n, .slice A cs.length c] 24)).alloc (.cells #[.int .i64 0, .slice none 0 0, .slice none 0 0, .int .i64 0] 33) := ⟨_, rfl⟩
  have Hw2 := Lib.hid hw2
  obtain ⟨B0, hB0⟩ : ∃ B0, B0 = w.heap.size := ⟨_, rfl⟩
  have HB0 := Lib.hid hB0
  clear hs hm hw2 hat
  rw [← hN] at Hw2 ⊢
  rw [← hB0]
  clear hN hB0
  go_enter Try.func12, Try.ntmps12
  go_wp2_with fail
  rw [← HB0.out]
  have HM := Lib.hid (show Calls Try.prog 11 #[.agg #[.int .i64 n, .slice A N c]] w2 fun e w' => e = .returned (.int .i64 0) ∧ Below w2.heap.size w2 w' by
    have := satMay_any n (.slice A cs.length c) cs w2 (by rw [Hw2.out]; exact RIntss.stable.up (RIntss.stable.up Hs.out (below_alloc _ _)) (below_alloc _ _))
    rw [HE.out, ← HN.out] at this
    exact this)
  rw [HB0.out, ← Hw2.out, ← HB0.out]
  have HK := Lib.hid (fun (W : World) (h : Below w2.heap.size w2 W) => show W.heap[B0 + 1]? = some (.cells #[.int .i64 0, .slice none 0 0, .slice none 0 0, .int .i64 0] 33 (0, 0)) ∧ Below B0 w W by
    rw [Hw2.out] at h
    rw [HB0.out]
    constructor
    · rw [h.block _ (by simp)]
      have := heap_alloc_new (w.alloc (.cells #[.int .i64 n, .slice A N c] 24)) (.cells #[.int .i64 0, .slice none 0 0, .slice none 0 0, .int .i64 0] 33)
      rwa [World.size_alloc] at this
    · exact ((below_alloc w _).trans ((below_alloc _ _).mono (by simp))).trans (h.mono (by simp; omega)))
  go_wp2_with (go_at_call 11; with_reducible refine HM.out.mono ?_; rintro e w3 ⟨rfl, b3⟩; go_loud (have HB3 := Lib.hid b3; have r3 := (HK.out w3 b3).1; obtain ⟨s0, s1, s2, s3, sf⟩ := res_at r3; have R3 := Lib.hid r3; clear b3 r3))
  refine bodyPost_ret (results_row2S rfl _ _ (B0 + 1) _ _ (0, 0) _ rfl (set4R R3.out _ _ _ _) Try.underlying33 rfl (by kernel_rfl)) rfl ?_
  exact ⟨rfl, below4R (HK.out w3 HB3.out).2 (by omega) _ _ _ _⟩
end Go.Proofs.Ytdepdceaojenoaa

namespace Go.Proofs.Ytdepdceaojenoaa
open Go.RowKit Go.ChangeShapes Go.WideShapes Go.ChangeAt Go.Deep Go.Joins

theorem RSl.weak {w : World} {S : Nat → Prop} {v : Value} {l : List Int} (h : RSl RIntW w S v l) : RInts w S v l := h.map_ fun _ _ _ h => h.1
theorem reads1_map {α : Type} {P : Program} {t : TypeId} {R R' : Rd α} (h : Reads1 P t R) (hm : ∀ w S v x, R w S v x → R' w S v x) : Reads1 P t R' := fun h1 h2 => by
  obtain ⟨v, d, e, hd⟩ := h h1 h2
  exact ⟨v, d, e, hm _ _ _ _ hd⟩
theorem reads1_intsW : Reads1 Try.prog 26 (RSl RIntW) := reads1_slice Try.underlying26 (by kernel_rfl) (reads1_int Try.underlying3)
theorem reads1_ints : Reads1 Try.prog 26 RInts := reads1_map reads1_intsW fun _ _ _ _ h => h.weak
theorem reads1_intss : Reads1 Try.prog 22 RIntss := reads1_slice Try.underlying22 (by kernel_rfl) reads1_ints
theorem reads1_bools : Reads1 Try.prog 31 RBools := reads1_slice Try.underlying31 (by kernel_rfl) (reads1_bool Try.underlying4)
set_option maxRecDepth 100000 in
theorem arg_slice {α : Type} {w : World} {t e : TypeId} {v : Value} {R : Rd (List α)} (h : Arg Try.prog w t v) (ht : Try.prog.underlying t = some (.slice e)) (hR : Reads1 Try.prog t R) : ∃ l, R w (Lt w.heap.size) v l := by
  refine h.read1 hR fun cs e => ?_
  subst e
  obtain ⟨H, enc, base, d, p, hv, _⟩ := h
  obtain ⟨a0, len, cap, e⟩ := okWide_slice ht hv
  cases e
set_option maxRecDepth 100000 in
theorem arg_int {W : World} {v : Value} (h : Arg Try.prog W 3 v) : ∃ n : Int, v = .int .i64 n ∧ -9223372036854775808 ≤ n ∧ n ≤ 9223372036854775807 :=
  h.read1 (reads1_int Try.underlying3) fun cs e => by
    subst e
    obtain ⟨H, enc, base, d, p, hv, ht, _⟩ := h
    obtain ⟨n, e⟩ := WideShapes.okWide_int Try.underlying3 hv
    cases e
set_option maxRecDepth 100000 in
theorem arg_question {w : World} {v : Value} (h : Arg Try.prog w 24 v) : ∃ n s C, v = .agg #[.int .i64 n, s] ∧ RIntss w (Lt w.heap.size) s C ∧ -9223372036854775808 ≤ n ∧ n ≤ 9223372036854775807 := by
  obtain ⟨H, enc, base, d, p, hv, ⟨fuel, hf⟩, hlt⟩ := h
  obtain ⟨cs, rfl, hsz⟩ := okWide_struct Try.underlying24 hv
  obtain ⟨c0, c1, rfl⟩ := array2 (hsz.trans (by kernel_rfl))
  obtain ⟨y0, y1, n, hx, _, g0, g1⟩ := trod_struct2 Try.underlying24 hf
  simp only [Prod.mk.injEq] at hx
  obtain ⟨rfl, rfl⟩ := hx
  have k1 : Try.prog.cellsOf 3 = 1 := by kernel_rfl
  have k2 : Try.prog.cellsOf 22 = 1 := by kernel_rfl
  obtain ⟨u0, x0, e0, r0⟩ := reads1_int Try.underlying3 (by simpa [Value.cells, k1] using g0) (fun q hq => hlt q (by simp [hq]))
  obtain ⟨u1, C, e1, r1⟩ := reads1_intss (by simpa [Value.cells, k2] using g1) (fun q hq => hlt q (by simp [hq]))
  simp at e0 e1
  subst e0 e1
  obtain ⟨rfl, b1, b2⟩ := r0
  exact ⟨x0, _, C, rfl, r1, b1, b2⟩
end Go.Proofs.Ytdepdceaojenoaa

namespace Go.Proofs.Ytdepdceaojenoaa
open Go.RowKit

theorem forget_200 {most : Nat} (h : most ≤ 200) : 200 < most → ∀ B S, ForgetOk B S := fun h2 => by omega
theorem solve_ex1 {w : World} {s : Value} (hs : RIntss w (Lt w.heap.size) s [[1, 2], [-1, 2], [1, -2]]) :
    Calls Try.prog 12 #[.agg #[.int .i64 2, s], .int .i64 100] w fun e w' => ∃ A c, e = .returned (.tuple #[.agg #[.int .i64 1, .slice A 2 c, .slice none 0 0, .int .i64 1], .int .i64 0]) ∧ RBools w' (fun b => w.heap.size ≤ b ∧ b < w'.heap.size) (.slice A 2 c) [true, true] ∧ Below w.heap.size w w' := by
  refine (solve_any (n := 2) (most := 100) hs (by decide) (by omega) (forget_200 (by omega))).mono ?_
  rintro e w' ⟨a, v, hr, rfl, hv, hb⟩
  obtain rfl := hr.eq (by decide) (by omega) (by simp) ex1
  obtain ⟨tv, rfl, h2⟩ := hv
  obtain ⟨A, c, rfl, -⟩ := h2.open_
  exact ⟨A, c, rfl, h2, hb⟩
theorem solve_ex2 {w : World} {s : Value} (hs : RIntss w (Lt w.heap.size) s [[1, 2], [-1, 2], [1, -2], [-1, -2]]) :
    Calls Try.prog 12 #[.agg #[.int .i64 2, s], .int .i64 100] w fun e w' => ∃ A c, e = .returned (.tuple #[.agg #[.int .i64 2, .slice none 0 0, .slice A 2 c, .int .i64 2], .int .i64 0]) ∧ Below w.heap.size w w' := by
  refine (solve_any (n := 2) (most := 100) hs (by decide) (by omega) (forget_200 (by omega))).mono ?_
  rintro e w' ⟨a, v, hr, rfl, hv, hb⟩
  obtain rfl := hr.eq (by decide) (by omega) (by simp) ex2
  obtain ⟨tv, rfl, h2⟩ := hv
  obtain ⟨A, c, rfl, -⟩ := h2.open_
  exact ⟨A, c, rfl, hb⟩
theorem solve_ex3 {w : World} {s : Value} (hs : RIntss w (Lt w.heap.size) s [[]]) :
    Calls Try.prog 12 #[.agg #[.int .i64 0, s], .int .i64 0] w fun e w' => ∃ A c, e = .returned (.tuple #[.agg #[.int .i64 2, .slice none 0 0, .slice A 1 c, .int .i64 0], .int .i64 0]) ∧ Below w.heap.size w w' := by
  refine (solve_any (n := 0) (most := 0) hs (by decide) (by omega) (forget_200 (by omega))).mono ?_
  rintro e w' ⟨a, v, hr, rfl, hv, hb⟩
  obtain rfl := hr.eq (by decide) (by omega) (by simp) ex3
  obtain ⟨tv, rfl, h2⟩ := hv
  obtain ⟨A, c, rfl, -⟩ := h2.open_
  exact ⟨A, c, rfl, hb⟩
/-- the question of the examples -/
structure LvA (W : World) (h : Nat) : Prop where
  b0 : W.heap[h]? = some (.cells #[.int .i64 1, .int .i64 2] 3 (0, 0))
  b1 : W.heap[h + 1]? = some (.cells #[.int .i64 (-1), .int .i64 2] 3 (0, 0))
  b2 : W.heap[h + 1 + 1]? = some (.cells #[.int .i64 1, .int .i64 (-2)] 3 (0, 0))
  b3 : W.heap[h + 1 + 1 + 1]? = some (.cells #[.slice (some ⟨h, 0, none⟩) 2 2, .slice (some ⟨h + 1, 0, none⟩) 2 2, .slice (some ⟨h + 1 + 1, 0, none⟩) 2 2] 26 (0, 0))
  b4 : W.heap[h + 1 + 1 + 1 + 1]? = some (.cells #[.int .i64 2, .slice (some ⟨h + 1 + 1 + 1, 0, none⟩) 3 3] 24 (0, 0))
theorem LvA.keep {W W' : World} {h B : Nat} (k : LvA W h) (hb : Below B W W') (hB : h + 5 ≤ B) : LvA W' h :=
  ⟨(hb.block _ (by omega)).trans k.b0, (hb.block _ (by omega)).trans k.b1, (hb.block _ (by omega)).trans k.b2, (hb.block _ (by omega)).trans k.b3, (hb.block _ (by omega)).trans k.b4⟩
theorem heap_lt {W : World} {b : Nat} {o : Obj} (h : W.heap[b]? = some o) : b < W.heap.size := (Array.getElem?_eq_some_iff.1 h).1
theorem LvA.reads {W : World} {h : Nat} (k : LvA W h) : RIntss W (Lt W.heap.size) (.slice (some ⟨h + 1 + 1 + 1, 0, none⟩) 3 3) [[1, 2], [-1, 2], [1, -2]] := by
  refine rows_block (vs := [.slice (some ⟨h, 0, none⟩) 2 2, .slice (some ⟨h + 1, 0, none⟩) 2 2, .slice (some ⟨h + 1 + 1, 0, none⟩) 2 2]) k.b3 (heap_lt k.b3) rfl (by omega) rfl fun i hi u hu => ?_
  match i, hi with
  | 0, _ => cases hu; exact ints_block (l := [1, 2]) k.b0 (heap_lt k.b0) rfl (by omega)
  | 1, _ => cases hu; exact ints_block (l := [-1, 2]) k.b1 (heap_lt k.b1) rfl (by omega)
  | 2, _ => cases hu; exact ints_block (l := [1, -2]) k.b2 (heap_lt k.b2) rfl (by omega)
theorem LvA.own {W : World} {h B : Nat} (k : LvA W h) (hB : B ≤ h) : OwnG W B 26 (.slice (some ⟨h + 1 + 1 + 1, 0, none⟩) 3 3) [.slice (some ⟨h, 0, none⟩) 2 2, .slice (some ⟨h + 1, 0, none⟩) 2 2, .slice (some ⟨h + 1 + 1, 0, none⟩) 2 2] :=
  .inr ⟨h + 1 + 1 + 1, 3, _, rfl, by omega, k.b3, by simp, by simp, by unfold maxLen; omega, rfl⟩
/-- one clause more -/
structure LvB (W : World) (h r : Nat) (v : Value) : Prop where
  b0 : W.heap[h]? = some (.cells #[.int .i64 1, .int .i64 2] 3 (0, 0))
  b1 : W.heap[h + 1]? = some (.cells #[.int .i64 (-1), .int .i64 2] 3 (0, 0))
  b2 : W.heap[h + 1 + 1]? = some (.cells #[.int .i64 1, .int .i64 (-2)] 3 (0, 0))
  b3 : W.heap[r]? = some (.cells #[.int .i64 (-1), .int .i64 (-2)] 3 (0, 0))
  own : OwnG W h 26 v [.slice (some ⟨h, 0, none⟩) 2 2, .slice (some ⟨h + 1, 0, none⟩) 2 2, .slice (some ⟨h + 1 + 1, 0, none⟩) 2 2, .slice (some ⟨r, 0, none⟩) 2 2]
theorem LvB.reads {W : World} {h r : Nat} {v : Value} (k : LvB W h r v) : RIntss W (Lt W.heap.size) v [[1, 2], [-1, 2], [1, -2], [-1, -2]] := by
  refine reads_of_g k.own rfl (fun g hg => (k.own.lt g hg).2) fun i hi u hu => ?_
  match i, hi with
  | 0, _ => cases hu; exact ints_block (l := [1, 2]) k.b0 (heap_lt k.b0) rfl (by omega)
  | 1, _ => cases hu; exact ints_block (l := [-1, 2]) k.b1 (heap_lt k.b1) rfl (by omega)
  | 2, _ => cases hu; exact ints_block (l := [1, -2]) k.b2 (heap_lt k.b2) rfl (by omega)
  | 3, _ => cases hu; exact ints_block (l := [-1, -2]) k.b3 (heap_lt k.b3) rfl (by omega)
theorem grown_keep {w3 w5 : World} {r n c x : Nat} {o : Obj} (hg : w3.grownBy w5 (Value.slice (some ⟨r, 0, none⟩) n c).ownBlock) (hx : x ≠ r) (ho : w3.heap[x]? = some o) : w5.heap[x]? = some o := by
  rw [(ag_of_grown hg) x ⟨heap_lt ho, fun e => hx (by simpa [Value.ownBlock] using e)⟩]; exact ho
theorem own_four {w : World} {B : Nat} {t : TypeId} {v a b c d : Value} (h : OwnG w B t v ([a, b, c] ++ [d])) : ∃ A k, v = .slice A 4 k := h.shape
set_option maxRecDepth 100000 in
set_option maxHeartbeats 4000000 in
theorem lives_any (w : World) : Calls Try.prog 9 #[] w fun e w' => e = .returned (.bool true) ∧ Below w.heap.size w w' := by
  go_enter Try.func9, Try.ntmps9
  go_wp2_with fail
  obtain ⟨W5, hW5⟩ : ∃ W5, W5 = ((((w.alloc (.cells #[.int .i64 1, .int .i64 2] 3)).alloc (.cells #[.int .i64 (-1), .int .i64 2] 3)).alloc (.cells #[.int .i64 1, .int .i64 (-2)] 3)).alloc (.cells #[.slice (some ⟨w.heap.size, 0, none⟩) 2 2, .slice (some ⟨w.heap.size + 1, 0, none⟩) 2 2, .slice (some ⟨w.heap.size + 1 + 1, 0, none⟩) 2 2] 26)).alloc (.cells #[.int .i64 2, .slice (some ⟨w.heap.size + 1 + 1 + 1, 0, none⟩) 3 3] 24) := ⟨_, rfl⟩
  rw [← hW5]
  obtain ⟨h, hh⟩ : ∃ h, h = w.heap.size := ⟨_, rfl⟩
  have HA := Lib.hid (show LvA W5 h by
    rw [hW5, hh]
    exact ⟨heap_at_alloc (heap_at_alloc (heap_at_alloc (heap_at_alloc (heap_new rfl)))), heap_at_alloc (heap_at_alloc (heap_at_alloc (heap_new (by simp)))), heap_at_alloc (heap_at_alloc (heap_new (by simp))), heap_at_alloc (heap_new (by simp)), heap_new (by simp)⟩)
  have HB := Lib.hid (show Below h w W5 by
    rw [hW5, hh]
    exact (((((below_alloc w _).alloc (by simp) _).alloc (by simp; omega) _).alloc (by simp; omega) _).alloc (by simp; omega) _))
  have Hs := Lib.hid (show W5.heap.size = h + 5 by rw [hW5, hh]; simp)
  rw [← hh]
  have Hh := Lib.hid hh
  clear hW5 hh
  refine (solve_ex1 HA.out.reads).mono ?_
  rintro e w1 ⟨A1, c1, rfl, hr1, hb1⟩
  have hsz1 : h + 5 ≤ w1.heap.size := by have := hb1.size; rw [Hs.out] at this; exact this
  have HA1 := Lib.hid (HA.out.keep hb1 (by rw [Hs.out]; exact Nat.le_refl _))
  have HB1 := Lib.hid (HB.out.trans (hb1.mono (by rw [Hs.out]; omega)))
  have HR1 := Lib.hid hr1
  clear hr1 hb1
  obtain ⟨b, hb⟩ : ∃ b, b = w1.heap.size := ⟨_, rfl⟩
  obtain ⟨w2, hw2⟩ : ∃ w2, w2 = w1.alloc (.cells #[.int .i64 1, .slice A1 2 c1, .slice none 0 0, .int .i64 1] 33) := ⟨_, rfl⟩
  obtain ⟨w3, hw3⟩ : ∃ w3, w3 = (w2.alloc (.cells #[.int .i64 (-1), .int .i64 (-2)] 3)).alloc (.cells #[.slice (some ⟨b + 1, 0, none⟩) 2 2] 26) := ⟨_, rfl⟩
  have hs2 : w2.heap.size = b + 1 := by rw [hw2, hb]; simp
  have hbh : h + 5 ≤ b := by rw [hb]; exact hsz1
  have HA2 := Lib.hid (HA1.out.keep (show Below b w1 w2 by rw [hw2, hb]; exact below_alloc _ _) (by omega))
  have HA3 := Lib.hid (HA2.out.keep (show Below (b + 1) w2 w3 by rw [hw3, ← hs2]; exact (below_alloc _ _).alloc (by simp) _) (by omega))
  have HX2 := Lib.hid (show w2.heap[b]? = some (.cells #[.int .i64 1, .slice A1 2 c1, .slice none 0 0, .int .i64 1] 33 (0, 0)) by rw [hw2]; exact heap_new hb)
  have HX3 := Lib.hid (show w3.heap[b]? = some (.cells #[.int .i64 1, .slice A1 2 c1, .slice none 0 0, .int .i64 1] 33 (0, 0)) by rw [hw3]; exact heap_at_alloc (heap_at_alloc HX2.out))
  have HY3 := Lib.hid (show w3.heap[b + 1]? = some (.cells #[.int .i64 (-1), .int .i64 (-2)] 3 (0, 0)) by rw [hw3]; exact heap_at_alloc (heap_new hs2.symm))
  have HZ3 := Lib.hid (show w3.cell? ⟨b + 2, 0, none⟩ = some (.slice (some ⟨b + 1, 0, none⟩) 2 2) by rw [hw3]; exact cell_of_row _ _ 0 _ _ (0, 0) (heap_new (by simp; omega)))
  have HR3 := Lib.hid (show RBools w3 (fun x => h + 5 ≤ x ∧ x < b) (.slice A1 2 c1) [true, true] by
    have hb3 : Below b w1 w3 := by rw [hw3, hw2, hb]; exact ((below_alloc _ _).alloc (by simp) _).alloc (by simp; omega) _
    exact RBools.stable _ _ _ _ _ _ HR1.out ((ag_of_below hb3).sub fun x hx => by rw [hb]; exact hx.2) fun x hx => ⟨by have := hx.1; rw [Hs.out] at this; exact this, by rw [hb]; exact hx.2⟩)
  have HB3 := Lib.hid (show Below h w w3 by rw [hw3, hw2]; exact ((HB1.out.alloc (by omega) _).alloc (by simp; omega) _).alloc (by simp; omega) _)
  have hs3 : w3.heap.size = b + 3 := by rw [hw3]; simp; omega
  have Hs3 := Lib.hid hs3
  have Hb := Lib.hid hb
  have Hs2 := Lib.hid hs2
  have Hw2 := Lib.hid hw2
  have Hw3 := Lib.hid hw3
  obtain ⟨m3, hm3⟩ : ∃ m3, m3 = 3 := ⟨_, rfl⟩
  have q1 : w2.cell? ⟨h + 1 + 1 + 1 + 1, 1, none⟩ = some (.slice (some ⟨h + 1 + 1 + 1, 0, none⟩) m3 m3) := by rw [cell_of_row _ _ 1 _ _ (0, 0) HA2.out.b4, hm3]; rfl
  rw [hw2] at q1
  have HO3 := Lib.hid (show OwnG w3 h 26 (.slice (some ⟨h + 1 + 1 + 1, 0, none⟩) m3 m3) _ by rw [hm3]; exact HA3.out.own (Nat.le_refl h))
  have Hm3 := Lib.hid hm3
  clear hm3
  clear hs3 hb hs2 hw2 hw3
  have HL := Lib.hid (show (((w1.alloc (.cells #[.int .i64 1, .slice A1 2 c1, .slice none 0 0, .int .i64 1] 33)).alloc (.cells #[.int .i64 (-1), .int .i64 (-2)] 3)).alloc (.cells #[.slice (some ⟨w1.heap.size + 1, 0, none⟩) 2 2] 26)) = w3 by rw [Hw3.out, Hw2.out, Hb.out])
  go_upto_region 4 with (at_builtin; go_loud (rw [HL.out, ← Hb.out]; refine wpList_pushG rfl _ _ _ rfl eRows (v := .slice (some ⟨h + 1 + 1 + 1, 0, none⟩) m3 m3) rfl HO3.out (b + 2) (.slice (some ⟨b + 1, 0, none⟩) 2 2) rfl HZ3.out rfl (by simp) (by rw [Hs3.out]; omega) ?_; intro v' w5 hown hgr hn; (obtain ⟨A5, c5, hv5⟩ := own_four hown; subst hv5; have HO5 := Lib.hid hown; have HG5 := Lib.hid hgr; have HN5 := Lib.hid hn; have hq5 := grown_keep hgr (x := h + 1 + 1 + 1 + 1) (by omega) HA3.out.b4; have q50 := cell_of_row _ _ 1 _ _ (0, 0) hq5; have q5f := frozen_of_row _ _ 1 _ _ hq5; clear hown hgr hn)))
  clear q1 q50 q5f
  have HB5 := Lib.hid (HB3.out.grown HG5.out (by rw [Hs3.out]; omega) fun k hk => by simp [Value.ownBlock] at hk; omega)
  have hsz5 : b + 3 ≤ w5.heap.size := by have := HG5.out.size; rw [Hs3.out] at this; exact this
  obtain ⟨w6, hw6⟩ : ∃ w6, w6 = w5.setCell ⟨h + 1 + 1 + 1 + 1, 1, none⟩ (.slice A5 4 c5) := ⟨_, rfl⟩
  have hn5 : ∀ g, (Value.slice A5 4 c5).ownBlock = some g → g ≠ h + 1 + 1 + 1 + 1 := fun g hg e => by
    rcases HN5.out g hg with k | k
    · simp [Value.ownBlock] at k; omega
    · rw [Hs3.out] at k; omega
  have hk6 : ∀ (x : Nat) (o : Obj), x ≠ h + 1 + 1 + 1 → x ≠ h + 1 + 1 + 1 + 1 → w3.heap[x]? = some o → w6.heap[x]? = some o := fun x o h1 h2 ho => by
    rw [hw6]; exact (kp_set w5 _ 1 _ h2).at_ (grown_keep HG5.out h1 ho)
  have HV6 := Lib.hid (show LvB w6 h (b + 1) (.slice A5 4 c5) from ⟨hk6 _ _ (by omega) (by omega) HA3.out.b0, hk6 _ _ (by omega) (by omega) HA3.out.b1, hk6 _ _ (by omega) (by omega) HA3.out.b2, hk6 _ _ (by omega) (by omega) HY3.out, by
    rw [hw6]; exact HO5.out.kp fun g hg => kp_set w5 _ 1 _ (hn5 g hg)⟩)
  have HX6 := Lib.hid (hk6 _ _ (by omega) (by omega) HX3.out)
  have HQ6 := Lib.hid (show w6.heap[h + 1 + 1 + 1 + 1]? = some (.cells #[.int .i64 2, .slice A5 4 c5] 24 (0, 0)) by
    rw [hw6]; exact heap_setCell_same w5 _ 1 _ _ _ hq5)
  have HB6 := Lib.hid (show Below h w w6 by rw [hw6]; exact HB5.out.setCell (p := ⟨h + 1 + 1 + 1 + 1, 1, none⟩) (by show h ≤ h + 1 + 1 + 1 + 1; omega) _)
  have hsz6 : b + 3 ≤ w6.heap.size := by rw [hw6]; simpa using hsz5
  have HR6 := Lib.hid (show RBools w6 (fun x => h + 5 ≤ x ∧ x < b) (.slice A1 2 c1) [true, true] from RBools.stable _ _ _ _ _ _ HR3.out (fun x hx => by
    rw [hw6, (Below.heap_setCell w5 ⟨h + 1 + 1 + 1 + 1, 1, none⟩ _ x (by have := hx.1; show x ≠ h + 1 + 1 + 1 + 1; omega))]
    exact (ag_of_grown HG5.out) x ⟨by rw [Hs3.out]; have := hx.2; omega, fun e => by simp [Value.ownBlock] at e; have := hx.1; omega⟩) fun x hx => hx)
  rw [← hw6]
  have q60 := cell_of_row _ _ 0 _ _ (0, 0) HQ6.out
  have q61 := cell_of_row _ _ 1 _ _ (0, 0) HQ6.out
  obtain ⟨AT, cT, hTe, hTm, hTat⟩ := HR6.out.open_
  obtain ⟨bT, oT, rfl, ⟨hT1, hT2⟩, hTc⟩ := hTat (by simp)
  obtain ⟨u0, hu0, e0⟩ := hTc 0 (by simp)
  obtain ⟨u1, hu1, e1⟩ := hTc 1 (by simp)
  obtain rfl := e0
  obtain rfl := e1
  cases hTe
  have HU0 := Lib.hid hu0
  have HU1 := Lib.hid hu1
  clear hw6 hq5 hn5 hk6 hTat hTc hu0 hu1 HR3 HR1 HA HA1 HA2 HA3 HG5 HN5 HO5
  go_wp2_with (go_at_call 12; with_reducible refine (solve_ex2 HV6.out.reads).mono ?_; rintro e w7 ⟨A7, c7, rfl, b7⟩; go_loud (have HB7 := Lib.hid b7; clear b7))
  obtain ⟨w8, hw8⟩ : ∃ w8, w8 = (w7.alloc (.cells #[.int .i64 2, .slice none 0 0, .slice A7 2 c7, .int .i64 2] 33)).alloc (.cells #[.slice none 0 0] 26) := ⟨_, rfl⟩
  obtain ⟨d, hd⟩ : ∃ d, d = w7.heap.size := ⟨_, rfl⟩
  have hd6 : w6.heap.size ≤ d := by rw [hd]; exact HB7.out.size
  have hs8 : w8.heap.size = d + 2 := by rw [hw8, hd]; simp
  have HB8 := Lib.hid (show Below w6.heap.size w6 w8 by rw [hw8]; exact (HB7.out.alloc HB7.out.size _).alloc (by have := HB7.out.size; simp; omega) _)
  have HC8 := Lib.hid (show RIntss w8 (Lt w8.heap.size) (.slice (some ⟨d + 1, 0, none⟩) 1 1) [[]] from one_nil (by rw [hw8]; exact heap_new (by simp [hd])) (by rw [hs8]; show d + 1 < d + 2; omega))
  have HD8 := Lib.hid (show w8.heap[d]? = some (.cells #[.int .i64 2, .slice none 0 0, .slice A7 2 c7, .int .i64 2] 33 (0, 0)) by rw [hw8]; exact heap_at_alloc (heap_new hd))
  have Hs8 := Lib.hid hs8
  rw [← hw8, ← hd]
  clear hw8 hd hs8 q60 q61
  refine (solve_ex3 HC8.out).mono ?_
  rintro e w9 ⟨A9, c9, rfl, b9⟩
  obtain ⟨X, hX⟩ : ∃ X, X = Obj.cells #[.int .i64 2, .slice none 0 0, .slice A9 1 c9, .int .i64 0] 33 := ⟨_, rfl⟩
  have k9 : Below w6.heap.size w6 w9 := HB8.out.trans (b9.mono HB8.out.size)
  have k10 : Below w6.heap.size w6 (w9.alloc X) := k9.alloc k9.size _
  have k11 : Below w8.heap.size w8 (w9.alloc X) := b9.alloc b9.size _
  have x0 := cell_of_row _ _ 0 _ _ (0, 0) ((k10.block b (by omega)).trans HX6.out)
  have x1 := cell_of_row _ _ 1 _ _ (0, 0) ((k10.block b (by omega)).trans HX6.out)
  have y0 := cell_of_row _ _ 0 _ _ (0, 0) ((k11.block d (by rw [Hs8.out]; omega)).trans HD8.out)
  have t0 : (w9.alloc X).cell? ⟨bT, oT, none⟩ = some (.bool true) := (k10.cell (p := ⟨bT, oT, none⟩) (by show bT < _; omega)).trans (by have := HU0.out; simpa using this)
  have t1 : (w9.alloc X).cell? ⟨bT, oT + 1, none⟩ = some (.bool true) := (k10.cell (p := ⟨bT, oT + 1, none⟩) (by show bT < _; omega)).trans (by have := HU1.out; simpa using this)
  have HF := Lib.hid (show Below h w (w9.alloc X) from HB6.out.trans (k10.mono (by omega)))
  rw [hX] at x0 x1 y0 t0 t1
  rw [hX] at HF
  clear hX k9 k10 k11 b9 HB8 HC8 HD8 HU0 HU1 HX6 HV6 HQ6 HR6
  go_wp2_with fail
  go_ret
  exact ⟨rfl, Hh.out ▸ HF.out⟩
end Go.Proofs.Ytdepdceaojenoaa
