/- leave: all that a node leads to was gone through. -/
import Derived.Test.YtjmenkjmghmkpaaGrF
import Derived.Test.YtjmenkjmghmkpaaGrT2
import Derived.RegionTactic
import Derived.ChangeAlike
import Derived.Deep.DeepCutAuto
namespace Go.Proofs.Ytjmenkjmghmkpaa
open Go.RowKit
open G22

theorem own_shrink {w : World} {base : Nat} {e : TypeId} {g c n : Nat} {xs : List Value} {x : Value} (h : w.ownsRow base e 1 (.slice (some ⟨g, 0, none⟩) (n + 1) c) (n + 1) (xs ++ [x])) : w.ownsRow base e 1 (.slice (some ⟨g, 0, none⟩) n c) n xs := by
  have hl : xs.length = n := by have := h.1; simp at this; omega
  refine ⟨by omega, ?_⟩
  rcases h.2 with ⟨e', _⟩ | ⟨g', cap, cur, e', h1, h2, h3, h4, h5, h6⟩
  · cases e'
  · cases e'
    refine .inr ⟨g, c, cur, rfl, h1, h2, by omega, h4, h5, ?_⟩
    rw [Nat.mul_one] at h6 ⊢
    have : cur.toList.take n = (cur.toList.take (n + 1)).take n := by rw [List.take_take]; congr 1; omega
    rw [this, h6, ← hl]
    exact List.take_left
theorem own_natCell' {w : World} {base : Nat} {e : TypeId} {g n c : Nat} {l : List Nat} (h : w.ownsRow base e 1 (.slice (some ⟨g, 0, none⟩) n c) n (l.map natV)) {i : Nat} (hi : i < l.length) : w.cell? ⟨g, i, none⟩ = some (.int .i64 (l.getD i 0 : Nat)) := by
  have := h.cells (g := g) rfl i (natV l[i]) (by simp [hi])
  rw [add_none, Nat.zero_add] at this
  rw [this, natV]; simp [List.getD, hi]
theorem own_last {w : World} {base : Nat} {e : TypeId} {g c n : Nat} {l : List Nat} {x : Nat} (h : w.ownsRow base e 1 (.slice (some ⟨g, 0, none⟩) (n + 1) c) (n + 1) (nVs (l ++ [x]))) : w.cell? ⟨g, n, none⟩ = some (.int .i64 (x : Int)) := by
  have hl : l.length = n := by have := h.1; simp at this; omega
  have := own_natCell' h (i := n) (by simp [hl])
  rw [this]
  simp [List.getD, ← hl]
theorem FinAt.of_heap {w w' : World} {F bm bl bx bi bg base N : Nat} {gv vo vw : Value} {s : St} (h : FinAt w F bm bl bx bi bg base N gv vo vw s) (e : w'.heap = w.heap) : FinAt w' F bm bl bx bi bg base N gv vo vw s := by
  have hb : ∀ {b : Nat} {t : TypeId} {vs : List Value}, VBlk w b t vs → VBlk w' b t vs := fun {b t vs} hv => by unfold VBlk at hv ⊢; rw [e]; exact hv
  exact ⟨hb h.st, hb h.met, hb h.low, hb h.nxt, hb h.inn, hb h.grp, own_ag h.oo fun g _ => by rw [e], own_ag h.ow fun g _ => by rw [e], h.far, by rw [e]; exact h.lt, h.ne⟩
theorem below_heap {B : Nat} {w x w' : World} (h : Below B w x) (e : w'.heap = x.heap) (e1 : w'.os = x.os) (e2 : w'.tape = x.tape) (e3 : w'.output = x.output) : Below B w w' :=
  ⟨e1.trans h.os, e2.trans h.tape, e3.trans h.output, by rw [e]; exact h.size, fun b hb => by rw [e]; exact h.block b hb⟩
def LeavePost (B F bm bl bx bi bg base N : Nat) (gv : Value) (s : St) (w0 : List Nat) (n : Nat) (w : World) (e : Ending) (w' : World) : Prop :=
  ∃ vo vw s', e = .returned (.tuple #[]) ∧ LeaveTo s w0 n s' ∧ FinAt w' F bm bl bx bi bg base N gv vo vw s' ∧ Below B w w'
set_option maxRecDepth 100000 in
set_option maxHeartbeats 4000000 in
theorem leave_any (B F bm bl bx bi bg base N : Nat) (gv vo vw : Value) (s : St) (w0 : List Nat) (n : Nat) (w : World) (h : FinAt w F bm bl bx bi bg base N gv vo vw s) (hB : From B F bm bl bx bi bg base)
    (hm : s.met.length = N) (hl : s.low.length = N) (hi : s.inn.length = N) (hg : s.group.length = N) (hn : n < N) (hN : N ≤ 1000000) (hw : s.way = w0 ++ [n]) (hwl : ∀ x ∈ w0, x < N) (hno : n ∈ s.opn) (hol : ∀ x ∈ s.opn, x < N) (ho : s.opn.length ≤ N) (hwn : s.way.length ≤ N)
    (hM : s.M n ≤ 1000000) (hL : ∀ x ∈ s.way, s.L x ≤ 1000000) (hla : s.last ≤ N) :
    Calls Try.prog 39 #[.pointer (some ⟨F, 0, none⟩), .int .i64 (n : Int)] w (LeavePost B F bm bl bx bi bg base N gv s w0 n w) := by
  have hwl2 : s.way.length = w0.length + 1 := by rw [hw]; simp
  have how := h.ow
  rw [hwl2, hw] at how
  obtain ⟨gw, cw, e, _, _⟩ := own_block how (by omega)
  subst e
  obtain ⟨c0, c1, c2, c3, c4, c5, c6, c7, c8, c9⟩ := h.cell
  have f6 := h.st.frozen 6
  have H0 := Lib.hid h
  have HB := Lib.hid hB
  have Hw := Lib.hid hw
  have H1 := Lib.hid (h.setF 6 (.slice (some ⟨gw, 0, none⟩) w0.length cw) (vo' := vo) (vw' := .slice (some ⟨gw, 0, none⟩) w0.length cw) (s' := wayS s w0) rfl ⟨rfl, rfl, rfl, rfl, rfl⟩ (own_setFar h.oo h.lt.1 _) (own_setFar (by have := own_shrink (xs := nVs w0) (x := natV n) (by simpa [nVs] using how); exact this) h.lt.1 _) h.far)
  have HB1 := Lib.hid (show Below B w (w.setCell ⟨F, 6, none⟩ (.slice (some ⟨gw, 0, none⟩) w0.length cw)) from (Below.refl _ _).setCell hB.1 _)
  have hw0n : w0.length ≤ 1000000 := by omega
  have hcl : w0.length ≤ cw := by
    rcases how.2 with ⟨e', _⟩ | ⟨g', cap, cur, e', _, _, h3, _⟩
    · cases e'
    · cases e'; omega
  clear h hB c0 c1 c2 c3 c4 c5 c7 c8 c9 how hw hwl2
  go_enter Try.func39, Try.ntmps39
  go_wp2
  go_upto_region 1 with (fail)
  go_region
  go_upto_if 27 with (fail)
  have H2 := Lib.hid H1.out.drew
  have HB2 := Lib.hid (below_drewN HB1.out 1)
  rw [show (w.setCell ⟨F, 6, none⟩ (.slice (some ⟨gw, 0, none⟩) w0.length cw)).drewN 1 = (w.setCell ⟨F, 6, none⟩ (.slice (some ⟨gw, 0, none⟩) w0.length cw)).drew from rfl] at HB2
  clear H1 HB1 c6 f6 H0
  generalize (w.setCell ⟨F, 6, none⟩ (.slice (some ⟨gw, 0, none⟩) w0.length cw)).drew = w1 at *
  obtain ⟨K, hK⟩ : ∃ K, K = w0.length := ⟨_, rfl⟩
  rw [← hK] at H2 hw0n hcl ⊢
  have HK := Lib.hid hK
  clear hK
  go_cut [] (fun wx => Hid (FinAt wx F bm bl bx bi bg base N gv vo (.slice (some ⟨gw, 0, none⟩) K cw) (lowUp s w0 n)) ∧ Hid (Below B w wx))
  case first =>
    rcases List.eq_nil_or_concat w0 with e | ⟨p, u, e⟩
    · subst e
      have hK0 : ¬ 0 < K := by have := HK.out; simp at this; omega
      go_wp2
      go_meet
      exact ⟨H2.out, HB2.out⟩
    · rw [List.concat_eq_append] at e
      subst e
      have hK1 : K = p.length + 1 := by have := HK.out; simpa using this
      have hK0 : 0 < K := by omega
      have hKt : K - 1 = p.length := by omega
      have hu : u < N := hwl u (by simp)
      obtain ⟨c0, c1, c2, c3, c4, c5, c6, c7, c8, c9⟩ := H2.out.cell
      have hcu := own_last (show w1.ownsRow base 3 1 (.slice (some ⟨gw, 0, none⟩) (p.length + 1) cw) (p.length + 1) (nVs (p ++ [u])) by have := H2.out.ow; rw [hK1] at this; simpa [wayS] using this)
      rw [← hKt] at hcu
      clear hK1 hKt
      have hlu := H2.out.low.nat (i := u) (by show u < s.low.length; omega)
      have hln := H2.out.low.nat (i := n) (by show n < s.low.length; omega)
      have hfu := H2.out.low.frozen u
      have hLu : gN s.low u ≤ 1000000 := hL u (by rw [Hw.out]; simp)
      have hLn : gN s.low n ≤ 1000000 := hL n (by rw [Hw.out]; simp)
      have HS := Lib.hid (H2.out.setLow u (min (gN s.low u) (gN s.low n)))
      have HBS := Lib.hid (HB2.out.setCell (p := ⟨bl, u, none⟩) HB.out.2.2.1 (.int .i64 ((min (gN s.low u) (gN s.low n) : Nat) : Int)))
      rw [show (wayS s (p ++ [u])).low = s.low from rfl] at hlu hln
      clear c0 c1 c3 c4 c5 c7 c8 c9
      by_cases hxy : gN s.low n < gN s.low u
      · have hm2 : ((min (gN s.low u) (gN s.low n) : Nat) : Int) = (gN s.low n : Int) := by rw [Nat.min_eq_right (Nat.le_of_lt hxy)]
        rw [hm2] at HS HBS
        clear hm2
        go_wp2
        go_region
        all_goals
          go_wp2
          go_meet
          exact ⟨by rw [lowUp_snoc]; exact HS.out.drew, below_drewN HBS.out 1⟩
      · have hm2 : ((min (gN s.low u) (gN s.low n) : Nat) : Int) = (gN s.low u : Int) := by rw [Nat.min_eq_left (by omega)]
        rw [hm2] at HS HBS
        clear hm2
        go_wp2
        go_region
        all_goals
          go_wp2
          go_meet
          exact ⟨by rw [lowUp_snoc]; exact HS.out.drew, below_drewN HBS.out 1⟩
  case rest =>
    obtain ⟨H3, HB3⟩ := hcut
    obtain ⟨e1, e2, e3, e4, e5, e6, e7, e8, e9⟩ := lowUp_met s w0 n
    obtain ⟨s1, hs1⟩ : ∃ s1, s1 = lowUp s w0 n := ⟨_, rfl⟩
    have Hs1 := Lib.hid hs1
    rw [← hs1] at H3 e1 e2 e3 e4 e5 e6 e7 e8 e9
    clear hs1 H2 HB2 hcl
    obtain ⟨c0, c1, c2, c3, c4, c5, c6, c7, c8, c9⟩ := H3.out.cell
    have hln := H3.out.low.nat (i := n) (by omega)
    have hmn := H3.out.met.nat (i := n) (by rw [e1]; omega)
    have hMl : gN s1.met n ≤ 1000000 := by rw [e1]; exact hM
    have Hm1 := Lib.hid (show gN s1.met n = s.M n by rw [e1]; rfl)
    have E := Lib.hid (And.intro e1 (And.intro e2 (And.intro e3 (And.intro e4 (And.intro e5 (And.intro e6 (And.intro e7 (And.intro e8 e9))))))))
    clear e1 e2 e3 e4 e5 e6 e7 e8 e9 c0 c3 c4 c5 c6 c7 c8
    by_cases heq : gN s1.low n = gN s1.met n
    case neg =>
      have hbb : ((gN s1.low n : Int) != (gN s1.met n : Int)) = true := by simp; omega
      have Hto := Lib.hid (show LeaveTo s w0 n s1 from .inl ⟨by rw [← Hs1.out, ← Hm1.out]; exact heq, Hs1.out⟩)
      clear heq
      generalize gN s1.low n = x at *
      generalize gN s1.met n = y at *
      go_wp2
      go_quiet (fail)
      go_wp2
      refine bodyPost_ret (results_none rfl _ _ _) rfl ?_
      exact ⟨_, _, s1, rfl, Hto.out, H3.out.drewN _, below_drewN HB3.out _⟩
    case pos =>
      have hbb : ((gN s1.low n : Int) != (gN s1.met n : Int)) = false := by simp; omega
      have Heq := Lib.hid heq
      clear heq
      obtain ⟨x, hx⟩ : ∃ x, x = gN s1.low n := ⟨_, rfl⟩
      obtain ⟨y, hy⟩ : ∃ y, y = gN s1.met n := ⟨_, rfl⟩
      rw [← hx] at hln hbb
      rw [← hy] at hmn hbb hMl
      clear hx hy
      go_wp2
      go_quiet (fail)
      go_wp2
      have H4 := Lib.hid (H3.out.drewN nq)
      have HB4 := Lib.hid (below_drewN HB3.out nq)
      generalize wc.drewN nq = w2 at *
      clear H3 HB3 c1 c2 c9 hln hbb hmn hMl hM hL hwl hw0n
      have hs1o : s1.opn = s.opn := E.out.2.2.2.2.1
      have Hstart := Lib.hid (show popTo s1 s.opn [] = s1 by rw [← hs1o]; rfl)
      have Hi1 := Lib.hid (show s1.inn.length = N by rw [E.out.2.2.2.2.2.1]; exact hi)
      have Hg1 := Lib.hid (show s1.group.length = N by rw [E.out.2.2.2.2.2.2.1]; exact hg)
      have hl1 : s1.last ≤ N := by rw [E.out.2.2.2.2.2.2.2.1]; exact hla
      clear hs1o hm hl hi hg
      go_loopg [] s.opn.length (fun gk wr => ∃ (O P : List Nat) (vo : Value), Hid (s.opn = O ++ P ∧ n ∈ O ∧ gk = O.length) ∧ Hid (FinAt wr F bm bl bx bi bg base N gv vo (.slice (some ⟨gw, 0, none⟩) K cw) (popTo s1 O P)) ∧ Hid (Below B w wr))
      case atStart => exact ⟨s.opn, [], vo, ⟨by simp, hno, rfl⟩, (by rw [Hstart.out]; exact H4.out), HB4.out⟩
      case round =>
        obtain ⟨w4, rfl⟩ : ∃ w0 : World, w0 = wr := ⟨_, rfl⟩
        obtain ⟨O, P, vo4, HO, HF, HBw⟩ := hrel
        rcases List.eq_nil_or_concat O with e | ⟨O', k, e⟩
        · exfalso
          have := HO.out.2.1
          rw [e] at this
          cases this
        · rw [List.concat_eq_append] at e
          subst e
          have hlen : (popTo s1 (O' ++ [k]) P).opn.length = O'.length + 1 := by simp [popTo]
          have hoo := HF.out.oo
          rw [hlen] at hoo
          obtain ⟨go, co, e, hgo, _⟩ := own_block hoo (by omega)
          subst e
          have hOn : O'.length + 1 ≤ N := by have h1 := HO.out.1; have h2 : s.opn.length = (O' ++ [k]).length + P.length := by rw [h1, List.length_append]
                                             simp at h2; omega
          have hco : O'.length + 1 ≤ co := by
            rcases hoo.2 with ⟨e', _⟩ | ⟨g', cap, cur, e', _, _, h3, _⟩
            · cases e'
            · cases e'; omega
          have hk : k < N := hol k (by rw [HO.out.1]; simp)
          have hck := own_last (l := O') (x := k) hoo
          have hshr := own_shrink (xs := nVs O') (x := natV k) (by simpa [nVs, popTo] using hoo)
          obtain ⟨c0, c1, c2, c3, c4, c5, c6, c7, c8, c9⟩ := HF.out.cell
          have c9' : w4.cell? ⟨F, 9, none⟩ = some (.int .i64 (s1.last : Int)) := c9
          have f5 := HF.out.st.frozen 5
          have ci := HF.out.inn.bool (i := k) (by show k < (setAll s1.inn P false).length; rw [setAll_length, Hi1.out]; exact hk)
          have cg := HF.out.grp.nat (i := k) (by show k < (setAll s1.group P s1.last).length; rw [setAll_length, Hg1.out]; exact hk)
          have fi := HF.out.inn.frozen k
          have fg := HF.out.grp.frozen k
          obtain ⟨n1, n2, n3, n4, n5, n6, n7, n8, n9, n10, n11, n12, n13, n14, n15⟩ := HF.out.ne
          have hgb : go ≠ F := by have := HF.out.lt; omega
          have H5 := HF.out.setF 5 (.slice (some ⟨go, 0, none⟩) O'.length co) (vo' := .slice (some ⟨go, 0, none⟩) O'.length co) (vw' := .slice (some ⟨gw, 0, none⟩) K cw) (s' := popTo s1 O' P |> fun t => { popTo s1 (O' ++ [k]) P with opn := O' }) rfl ⟨rfl, rfl, rfl, rfl, rfl⟩ (own_setFar hshr HF.out.lt.1 _) (own_setFar HF.out.ow HF.out.lt.1 _) HF.out.far
          have H6 := (H5.setInn k false).setGrp k s1.last
          have HB6 := Lib.hid (((HBw.out.setCell (p := ⟨F, 5, none⟩) HB.out.1 (.slice (some ⟨go, 0, none⟩) O'.length co)).setCell (p := ⟨bi, k, none⟩) HB.out.2.2.2.2.1 (.bool false)).setCell (p := ⟨bg, k, none⟩) HB.out.2.2.2.2.2.1 (.int .i64 (s1.last : Int)))
          have H7 := Lib.hid (show FinAt _ F bm bl bx bi bg base N gv (.slice (some ⟨go, 0, none⟩) O'.length co) (.slice (some ⟨gw, 0, none⟩) K cw) (popTo s1 O' (k :: P)) from H6)
          clear H5 H6 hoo hlen hshr c0 c1 c2 c3 c6 c7 c9 n1 n2 n3 n6 n7 n8 n9 n10 n11 n12 n13 n14
          by_cases hkn : k = n
          case neg =>
            have hbb : ((k : Int) == (n : Int)) = false := by simp; omega
            have Hno := Lib.hid (show n ∈ O' by have := HO.out.2.1; simp at this; rcases this with h | h; exact h; exact absurd h.symm hkn)
            clear hkn
            go_wp2
            go_quiet (fail)
            go_wp2
            go_region
            go_wp2
            go_region
            go_wp2
            go_roundg O'.length
            case rel => exact ⟨O', k :: P, _, ⟨by rw [HO.out.1]; simp, Hno.out, rfl⟩, H7.out.of_heap rfl, below_heap HB6.out rfl rfl rfl rfl⟩
            case measure => have := HO.out.2.2; simp at this; omega
          case pos =>
            have hbb : ((k : Int) == (n : Int)) = true := by simp; omega
            have f9 := HF.out.st.frozen 9
            have H8 := Lib.hid (H7.out.setLast (s1.last + 1))
            have HB8 := Lib.hid (HB6.out.setCell (p := ⟨F, 9, none⟩) HB.out.1 (.int .i64 ((s1.last + 1 : Nat) : Int)))
            have hcast : ((s1.last + 1 : Nat) : Int) = (s1.last : Int) + 1 := by omega
            rw [hcast] at H8 HB8
            have Hto := Lib.hid (show LeaveTo s w0 n { popTo s1 O' (k :: P) with last := s1.last + 1 } from .inr ⟨by rw [← Hs1.out, ← Hm1.out]; exact Heq.out, O', P, by rw [HO.out.1, hkn]; simp, by rw [← Hs1.out, hkn]; rfl⟩)
            clear hkn hcast
            go_wp2
            go_quiet (fail)
            go_wp2
            go_region
            go_wp2
            go_region
            go_wp2
            go_end0
            exact ⟨_, _, _, rfl, Hto.out, H8.out.of_heap rfl, below_heap HB8.out rfl rfl rfl rfl⟩
end Go.Proofs.Ytjmenkjmghmkpaa
