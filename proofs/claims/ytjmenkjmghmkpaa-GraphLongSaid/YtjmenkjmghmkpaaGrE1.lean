/- enter: a node is met. -/
import Derived.Test.YtjmenkjmghmkpaaGrF0
import Derived.Test.YtjmenkjmghmkpaaRegTwo
import Derived.RegionTactic
import Derived.ChangeAlike
import Derived.Deep.RegionHeld3
import Derived.Deep.DeepCutAuto
import Derived.Deep.RegionLaw
import Derived.Deep.RegionLawGrows
namespace Go.Proofs.Ytjmenkjmghmkpaa
open Go.RowKit
open G22

theorem news1 {w : World} {b : Nat} {v : Value} (h : w.cell? ⟨b, 0, none⟩ = some v) : ∀ j u, [v][j]? = some u → w.cell? ((⟨b, 0, none⟩ : Addr).add j) = some u := fun j u hu => by
  match j, hu with
  | 0, hu => cases hu; exact h
theorem FinAt.two {w2 w8 : World} {F bm bl bx bi bg base N n : Nat} {gv vo vw vo' vw' : Value} {s : St} (h : FinAt w2 F bm bl bx bi bg base N gv vo vw s) (hk : ∀ b, b < base → w8.heap[b]? = w2.heap[b]?) (hs : w2.heap.size ≤ w8.heap.size)
    (h1 : w8.ownsRow base 3 1 vo' (s.opn.length + 1) (nVs s.opn ++ [natV n])) (h2 : w8.ownsRow base 3 1 vw' (s.way.length + 1) (nVs s.way ++ [natV n])) (h3 : vo'.ownBlock = none ∨ vo'.ownBlock ≠ vw'.ownBlock) :
    FinAt ((w8.setCell ⟨F, 5, none⟩ vo').setCell ⟨F, 6, none⟩ vw') F bm bl bx bi bg base N gv vo' vw' { s with opn := s.opn ++ [n], way := s.way ++ [n] } := by
  have hF := h.lt.1
  have hst : VBlk w8 F 49 [gv, slN bm N, slN bl N, slN bx N, slN bi N, vo, vw, natV s.count, slN bg N, natV s.last] := (hk F hF).trans h.st
  have e1 : (s.opn ++ [n]).length = s.opn.length + 1 := by simp
  have e2 : (s.way ++ [n]).length = s.way.length + 1 := by simp
  have far2 : ∀ {b : Nat} {t : TypeId} {vs : List Value}, b < base → F ≠ b → VBlk w2 b t vs → VBlk ((w8.setCell ⟨F, 5, none⟩ vo').setCell ⟨F, 6, none⟩ vw') b t vs := fun {b t vs} hb hne hv =>
    (((show VBlk w8 b t vs from (hk b hb).trans hv).far (fun e => hne e.symm) _).far (fun e => hne e.symm) _)
  obtain ⟨l1, l2, l3, l4, l5, l6, l7⟩ := h.lt
  obtain ⟨n1, n2, n3, n4, n5, _⟩ := h.ne
  refine ⟨(hst.set 5 vo').set 6 vw', far2 l2 n1 h.met, far2 l3 n2 h.low, far2 l4 n3 h.nxt, far2 l5 n4 h.inn, far2 l6 n5 h.grp, ?_, ?_, h3, ⟨l1, l2, l3, l4, l5, l6, by rw [size_setCell, size_setCell]; omega⟩, h.ne⟩
  · rw [e1]
    have := own_setFar (own_setFar h1 (p := ⟨F, 5, none⟩) hF vo') (p := ⟨F, 6, none⟩) hF vw'
    simpa [nVs] using this
  · rw [e2]
    have := own_setFar (own_setFar h2 (p := ⟨F, 5, none⟩) hF vo') (p := ⟨F, 6, none⟩) hF vw'
    simpa [nVs] using this
def entB (F bm bl bi N n : Nat) (sc : Int) (x : Nat → Value) : Act := ⟨#[.pointer (some ⟨F, 0, none⟩), .int .i64 (n : Int), undef, undef, .pointer (some ⟨F, 0, none⟩), .pointer (some ⟨F, 0, none⟩), .pointer (some ⟨F, 7, none⟩), .int .i64 sc, .int .i64 (sc + 1), .pointer (some ⟨F, 0, none⟩), .pointer (some ⟨F, 7, none⟩), .pointer (some ⟨F, 0, none⟩), .pointer (some ⟨F, 0, none⟩), .pointer (some ⟨F, 1, none⟩), .slice (some ⟨bm, 0, none⟩) N N, .int .i64 (n : Int), .pointer (some ⟨F, 0, none⟩), .pointer (some ⟨F, 0, none⟩), .pointer (some ⟨F, 2, none⟩), .slice (some ⟨bl, 0, none⟩) N N, .int .i64 (n : Int), .pointer (some ⟨F, 0, none⟩), .pointer (some ⟨F, 0, none⟩), .pointer (some ⟨F, 4, none⟩), .slice (some ⟨bi, 0, none⟩) N N, .int .i64 (n : Int), .pointer (some ⟨F, 0, none⟩), .pointer (some ⟨F, 0, none⟩), .pointer (some ⟨F, 7, none⟩), .int .i64 (sc + 1), .pointer (some ⟨F, 0, none⟩), .pointer (some ⟨F, 0, none⟩), .pointer (some ⟨F, 7, none⟩), .int .i64 (sc + 1), .pointer (some ⟨bm, n, none⟩), .pointer (some ⟨bl, n, none⟩), .pointer (some ⟨bi, n, none⟩), x 37, x 38, x 39, x 40, x 41, x 42, x 43, x 44, x 45, x 46, x 47, x 48, x 49, x 50, x 51, x 52, x 53, x 54, x 55, x 56], []⟩
def entM (m : Nat → Bool) : Array Bool := #[m 0, m 1, m 2, m 3, m 4, m 5, m 6, m 7, m 8, m 9, m 10, m 11, m 12, m 13, m 14, m 15, m 16, m 17, m 18, m 19, m 20, m 21]
def entA (F bm bl bi N n : Nat) (sc : Int) (x : Nat → Value) : Act := ⟨#[.pointer (some ⟨F, 0, none⟩), .int .i64 (n : Int), undef, undef, .pointer (some ⟨F, 0, none⟩), .pointer (some ⟨F, 0, none⟩), .pointer (some ⟨F, 7, none⟩), .int .i64 sc, .int .i64 (sc + 1), .pointer (some ⟨F, 0, none⟩), .pointer (some ⟨F, 7, none⟩), .pointer (some ⟨F, 0, none⟩), .pointer (some ⟨F, 0, none⟩), .pointer (some ⟨F, 1, none⟩), .slice (some ⟨bm, 0, none⟩) N N, .int .i64 (n : Int), .pointer (some ⟨F, 0, none⟩), .pointer (some ⟨F, 0, none⟩), .pointer (some ⟨F, 2, none⟩), .slice (some ⟨bl, 0, none⟩) N N, .int .i64 (n : Int), .pointer (some ⟨F, 0, none⟩), .pointer (some ⟨F, 0, none⟩), .pointer (some ⟨F, 4, none⟩), .slice (some ⟨bi, 0, none⟩) N N, .int .i64 (n : Int), .pointer (some ⟨F, 0, none⟩), .pointer (some ⟨F, 0, none⟩), .pointer (some ⟨F, 7, none⟩), .int .i64 (sc + 1), .pointer (some ⟨F, 0, none⟩), .pointer (some ⟨F, 0, none⟩), .pointer (some ⟨F, 7, none⟩), .int .i64 (sc + 1), .pointer (some ⟨bm, n, none⟩), .pointer (some ⟨bl, n, none⟩), .pointer (some ⟨bi, n, none⟩), .pointer (some ⟨F, 0, none⟩), .pointer (some ⟨F, 0, none⟩), .pointer (some ⟨F, 0, none⟩), .pointer (some ⟨F, 0, none⟩), .pointer (some ⟨F, 5, none⟩), x 5, .int .i64 (n : Int), x 7, x 8, .pointer (some ⟨F, 0, none⟩), .pointer (some ⟨F, 0, none⟩), .pointer (some ⟨F, 6, none⟩), x 12, .int .i64 (n : Int), x 14, x 15, undef, undef, undef, undef], []⟩
def entL (m : Nat → Bool) : Array Bool := #[true, true, true, true, true, m 5, true, m 7, m 8, true, true, true, m 12, true, m 14, m 15, false, false, false, false, false, false]
theorem TwoAt.fin {w3 w8 : World} {F bm bl bx bi bg base N n c1 c2 : Nat} {gv vo vw vo' vw' : Value} {s s2 : St} (t : TwoAt w3 base 3 vo vw s.opn s.way n true true true true c1 c2 vo' vw' w8) (h : FinAt w3 F bm bl bx bi bg base N gv vo vw s2)
    (he : enterS s n = { s2 with opn := s.opn ++ [n], way := s.way ++ [n] } ∧ s2.opn = s.opn ∧ s2.way = s.way) : FinAt ((w8.setCell ⟨F, 5, none⟩ vo').setCell ⟨F, 6, none⟩ vw') F bm bl bx bi bg base N gv vo' vw' (enterS s n) := by
  obtain ⟨e1, e2, e3⟩ := he
  have h1 : w8.ownsRow base 3 1 vo' (s.opn.length + 1) (nVs s.opn ++ [natV n]) := by have := t.oa; simpa [ext, nVs] using this
  have h2 : w8.ownsRow base 3 1 vw' (s.way.length + 1) (nVs s.way ++ [natV n]) := by have := t.ob; simpa [ext, nVs] using this
  rw [e1]
  rw [← e2] at h1 ⊢
  rw [← e3] at h2 ⊢
  exact FinAt.two h (fun b hb => t.keep b (Nat.lt_of_lt_of_le hb h.lt.2.2.2.2.2.2) (fun e => by have := (h.oo.lt b e.symm).1; omega) (fun e => by have := (h.ow.lt b e.symm).1; omega)) t.size h1 h2 t.far
theorem TwoAt.below {w3 w8 : World} {F bm bl bx bi bg base N n c1 c2 B : Nat} {gv vo vw vo' vw' : Value} {s s2 : St} (t : TwoAt w3 base 3 vo vw s.opn s.way n true true true true c1 c2 vo' vw' w8) (h : FinAt w3 F bm bl bx bi bg base N gv vo vw s2) (hB : B ≤ base) : Below B w3 w8 :=
  ⟨t.env.1, t.env.2.1, t.env.2.2, t.size, fun b hb => t.keep b (by have := h.lt.2.2.2.2.2.2; omega) (fun e => by have := (h.oo.lt b e.symm).1; omega) (fun e => by have := (h.ow.lt b e.symm).1; omega)⟩
theorem TwoAt.cellF {w3 w : World} {F bm bl bx bi bg base N n c1 c2 i : Nat} {p1 q1 p2 q2 : Bool} {gv vo vw vo' vw' u : Value} {s s2 : St} (t : TwoAt w3 base 3 vo vw s.opn s.way n p1 q1 p2 q2 c1 c2 vo' vw' w) (h : FinAt w3 F bm bl bx bi bg base N gv vo vw s2)
    (hc : w3.cell? ⟨F, i, none⟩ = some u) : w.cell? ⟨F, i, none⟩ = some u :=
  (World.cell?_of_block (a := ⟨F, i, none⟩) (t.keep F (by have := h.lt; omega) (fun e => by have := (h.oo.lt F e.symm).1; have := h.lt; omega) (fun e => by have := (h.ow.lt F e.symm).1; have := h.lt; omega))).trans hc
theorem TwoAt.frozenF {w3 w : World} {F bm bl bx bi bg base N n c1 c2 i : Nat} {p1 q1 p2 q2 : Bool} {gv vo vw vo' vw' : Value} {s s2 : St} (t : TwoAt w3 base 3 vo vw s.opn s.way n p1 q1 p2 q2 c1 c2 vo' vw' w) (h : FinAt w3 F bm bl bx bi bg base N gv vo vw s2)
    (hc : w3.frozen? ⟨F, i, none⟩ = false) : w.frozen? ⟨F, i, none⟩ = false :=
  (World.frozen?_of_block (a := ⟨F, i, none⟩) (t.keep F (by have := h.lt; omega) (fun e => by have := (h.oo.lt F e.symm).1; have := h.lt; omega) (fun e => by have := (h.ow.lt F e.symm).1; have := h.lt; omega))).trans hc
/-- The region's invariant over what is listed. -/
def EntJ (w3 : World) (F bm bl bi base N n : Nat) (sc : Int) (vo vw : Value) (s : St) (L : Array Bool) (a : Act) (w : World) : Prop :=
  ∃ (m : Nat → Bool) (x : Nat → Value) (c1 c2 : Nat) (va' vb' : Value), L = entL m ∧ a = entA F bm bl bi N n sc x ∧ (m 5 = true → x 5 = vo) ∧ (m 7 = true → x 7 = .slice (some ⟨c1, 0, none⟩) 1 1) ∧ (m 8 = true → x 8 = va' ∧ m 5 = true ∧ m 7 = true) ∧
    (m 12 = true → x 12 = vw) ∧ (m 14 = true → x 14 = .slice (some ⟨c2, 0, none⟩) 1 1) ∧ (m 15 = true → x 15 = vb' ∧ m 12 = true ∧ m 14 = true) ∧ TwoAt w3 base 3 vo vw s.opn s.way n (m 7) (m 8) (m 14) (m 15) c1 c2 va' vb' w
theorem ready_all {md : Region.Mode} {ops : Array Oper} {L : Array Bool} {i : Nat} (hi : i ∈ Region.ready md ops L) (p : Nat → Bool) (h : (Region.ready md ops L).all p = true) : p i = true := List.all_eq_true.1 h i hi
theorem ready_some {md : Region.Mode} {ops : Array Oper} {L : Array Bool} {c : Bool} (h : (c || !(Region.ready md ops L).isEmpty) = true) (hc : ¬ c = true) : Region.ready md ops L ≠ [] := fun e => by
  rw [e] at h
  simp at h
  exact hc h
set_option maxRecDepth 100000 in
set_option maxHeartbeats 1000000 in
theorem enter_any (B F bm bl bx bi bg base N : Nat) (gv vo vw : Value) (s : St) (n : Nat) (w : World) (h : FinAt w F bm bl bx bi bg base N gv vo vw s) (hB : From B F bm bl bx bi bg base)
    (hm : s.met.length = N) (hl : s.low.length = N) (hi : s.inn.length = N) (hn : n < N) (hN : N ≤ 1000000) (hc : s.count ≤ N) (ho : s.opn.length ≤ N) (hw : s.way.length ≤ N) :
    Calls Try.prog 38 #[.pointer (some ⟨F, 0, none⟩), .int .i64 (n : Int)] w (EnterPost B F bm bl bx bi bg base N gv s n w) := by
  obtain ⟨Ao, co, rfl⟩ := own_shape h.oo
  obtain ⟨Aw, cw, rfl⟩ := own_shape h.ow
  obtain ⟨c0, c1, c2, c3, c4, c5, c6, c7, c8, c9⟩ := h.cell
  have f7 := h.st.frozen 7
  have H1 := Lib.hid (h.setCount (s.count + 1))
  have HB1 := Lib.hid (show Below B w (w.setCell ⟨F, 7, none⟩ (.int .i64 ((s.count + 1 : Nat) : Int))) from (Below.refl _ _).setCell hB.1 _)
  have HB := Lib.hid hB
  have hcast : ((s.count + 1 : Nat) : Int) = (s.count : Int) + 1 := by omega
  rw [hcast] at H1 HB1
  clear h hB c0 hcast
  go_enter Try.func38, Try.ntmps38
  go_wp2
  clear c1 c2 c3 c4 c5 c6 c7 c8 c9 f7
  generalize w.setCell ⟨F, 7, none⟩ (.int .i64 ((s.count : Int) + 1)) = w1 at *
  obtain ⟨c0, c1, c2, c3, c4, c5, c6, c7, c8, c9⟩ := H1.out.cell
  have c7' : w1.cell? ⟨F, 7, none⟩ = some (.int .i64 ((s.count : Int) + 1)) := c7
  have cm := H1.out.met.nat (i := n) (by show n < s.met.length; omega)
  have cl := H1.out.low.nat (i := n) (by show n < s.low.length; omega)
  have ci := H1.out.inn.bool (i := n) (by show n < s.inn.length; omega)
  have fm := H1.out.met.frozen n
  have fl := H1.out.low.frozen n
  have fi := H1.out.inn.frozen n
  obtain ⟨n1, n2, n3, n4, n5, n6, n7, n8, n9, n10, n11, n12, n13, n14, n15⟩ := H1.out.ne
  clear c7 c0 c3 c5 c6 c8 c9
  go_upto_region 2 with (fail)
  trace "R1"
  go_region
  go_wp2
  have hcast2 : ((s.count + 1 : Nat) : Int) = (s.count : Int) + 1 := by omega
  have hx := ((H1.out.setMet n (s.count + 1)).setLow n (s.count + 1)).setInn n true
  rw [hcast2] at hx
  have HX := Lib.hid (show FinAt _ F bm bl bx bi bg base N gv (.slice Ao s.opn.length co) (.slice Aw s.way.length cw) { s with count := s.count + 1, met := s.met.set n (s.count + 1), low := s.low.set n (s.count + 1), inn := s.inn.set n true } from hx)
  have HBX := Lib.hid (((HB1.out.setCell (p := ⟨bm, n, none⟩) HB.out.2.1 (.int .i64 ((s.count : Int) + 1))).setCell (p := ⟨bl, n, none⟩) HB.out.2.2.1 (.int .i64 ((s.count : Int) + 1))).setCell (p := ⟨bi, n, none⟩) HB.out.2.2.2.2.1 (.bool true))
  clear hcast2 c7' cm cl ci fm fl fi c1 c2 c4 H1 HB1 hx
  generalize ((w1.setCell ⟨bm, n, none⟩ (.int .i64 ((s.count : Int) + 1))).setCell ⟨bl, n, none⟩ (.int .i64 ((s.count : Int) + 1))).setCell ⟨bi, n, none⟩ (.bool true) = w2 at *
  have HX2 := Lib.hid HX.out.drew
  have HBX2 := Lib.hid (below_drewN HBX.out 1)
  rw [show w2.drewN 1 = w2.drew from rfl] at HBX2
  clear HX HBX
  generalize w2.drew = w3 at *
  obtain ⟨s2, hs2⟩ : ∃ s2 : St, s2 = { s with count := s.count + 1, met := s.met.set n (s.count + 1), low := s.low.set n (s.count + 1), inn := s.inn.set n true } := ⟨_, rfl⟩
  have HE := Lib.hid (show enterS s n = { s2 with opn := s.opn ++ [n], way := s.way ++ [n] } ∧ s2.opn = s.opn ∧ s2.way = s.way by rw [hs2]; exact ⟨rfl, rfl, rfl⟩)
  have HX3 := Lib.hid HX2.out
  rw [← hs2] at HX3
  clear HX2 hs2
  have HX2 := Lib.hid HX3.out
  clear HX3
  have Hoo := Lib.hid (show w3.ownsRow base 3 1 (.slice Ao s.opn.length co) s.opn.length (nVs s.opn) by have := HX2.out.oo; rwa [HE.out.2.1] at this)
  have How := Lib.hid (show w3.ownsRow base 3 1 (.slice Aw s.way.length cw) s.way.length (nVs s.way) by have := HX2.out.ow; rwa [HE.out.2.2] at this)
  have Hst3 := Lib.hid HX2.out.st
  have Hfar := Lib.hid HX2.out.far
  have c5 : w3.cell? ⟨F, 5, none⟩ = some (.slice Ao s.opn.length co) := HX2.out.st.cell (i := 5) rfl
  have c6 : w3.cell? ⟨F, 6, none⟩ = some (.slice Aw s.way.length cw) := HX2.out.st.cell (i := 6) rfl
  have f5 := HX2.out.st.frozen 5
  have f6 := HX2.out.st.frozen 6
  have hF2 : F < w3.heap.size := by have := HX2.out.lt; omega
  have hFo : some F ≠ (Value.slice Ao s.opn.length co).ownBlock := fun e => by have := (Hoo.out.lt F e.symm).1; have := HX2.out.lt; omega
  have hFw : some F ≠ (Value.slice Aw s.way.length cw).ownBlock := fun e => by have := (How.out.lt F e.symm).1; have := HX2.out.lt; omega
  have HFo := Lib.hid hFo
  have HFw := Lib.hid hFw
  have hbs : base ≤ w3.heap.size := HX2.out.lt.2.2.2.2.2.2
  have hn0 : n < N := hn
  clear hm hl hi hn hn0 hFo hFw n1 n2 n3 n4 n5 n6 n7 n8 n9 n10 n11 n12 n13 n14 n15
  refine wp_region_any (by kernel_rfl) ?_
  refine (show wpAny _ _ _ _ 22 (entM fun _ => false) (entB F bm bl bi N n s.count fun _ => undef) w3.drew from ?_)
  refine wpAny_take (i := 0) (v := .pointer (some ⟨F, 0, none⟩)) rfl (by kernel_rfl) (by kernel_rfl) (by kernel_rfl) (fun _ _ _ h => h) (Or.inl ⟨by rfl, ?hy0⟩) ?rest0
  case hy0 =>
    intro w
    unfold entB
    try unfold upd
    go_simp
    try with_reducible rfl
  refine (show wpAny _ _ _ _ 21 (entM (upd (fun _ => false) 0 true)) (entB F bm bl bi N n s.count (upd (fun _ => undef) 37 (.pointer (some ⟨F, 0, none⟩)))) _ from ?_)
  refine wpAny_take (i := 1) (v := .pointer (some ⟨F, 0, none⟩)) rfl (by kernel_rfl) (by kernel_rfl) (by kernel_rfl) (fun _ _ _ h => h) (Or.inl ⟨by rfl, ?hy1⟩) ?rest1
  case hy1 =>
    intro w
    unfold entB
    try unfold upd
    go_simp
    try with_reducible rfl
  refine (show wpAny _ _ _ _ 20 (entM (upd (upd (fun _ => false) 0 true) 1 true)) (entB F bm bl bi N n s.count (upd (upd (fun _ => undef) 37 (.pointer (some ⟨F, 0, none⟩))) 38 (.pointer (some ⟨F, 0, none⟩)))) _ from ?_)
  refine wpAny_take (i := 2) (v := .pointer (some ⟨F, 0, none⟩)) rfl (by kernel_rfl) (by kernel_rfl) (by kernel_rfl) (fun _ _ _ h => h) (Or.inl ⟨by rfl, ?hy2⟩) ?rest2
  case hy2 =>
    intro w
    unfold entB
    try unfold upd
    go_simp
    try with_reducible rfl
  refine (show wpAny _ _ _ _ 19 (entM (upd (upd (upd (fun _ => false) 0 true) 1 true) 2 true)) (entB F bm bl bi N n s.count (upd (upd (upd (fun _ => undef) 37 (.pointer (some ⟨F, 0, none⟩))) 38 (.pointer (some ⟨F, 0, none⟩))) 39 (.pointer (some ⟨F, 0, none⟩)))) _ from ?_)
  refine wpAny_take (i := 3) (v := .pointer (some ⟨F, 0, none⟩)) rfl (by kernel_rfl) (by kernel_rfl) (by kernel_rfl) (fun _ _ _ h => h) (Or.inl ⟨by rfl, ?hy3⟩) ?rest3
  case hy3 =>
    intro w
    unfold entB
    try unfold upd
    go_simp
    try with_reducible rfl
  refine (show wpAny _ _ _ _ 18 (entM (upd (upd (upd (upd (fun _ => false) 0 true) 1 true) 2 true) 3 true)) (entB F bm bl bi N n s.count (upd (upd (upd (upd (fun _ => undef) 37 (.pointer (some ⟨F, 0, none⟩))) 38 (.pointer (some ⟨F, 0, none⟩))) 39 (.pointer (some ⟨F, 0, none⟩))) 40 (.pointer (some ⟨F, 0, none⟩)))) _ from ?_)
  refine wpAny_take (i := 4) (v := .pointer (some ⟨F, 5, none⟩)) rfl (by kernel_rfl) (by kernel_rfl) (by kernel_rfl) (fun _ _ _ h => h) (Or.inl ⟨by rfl, ?hy4⟩) ?rest4
  case hy4 =>
    intro w
    unfold entB
    try unfold upd
    go_simp
    try with_reducible rfl
  refine (show wpAny _ _ _ _ 17 (entM (upd (upd (upd (upd (upd (fun _ => false) 0 true) 1 true) 2 true) 3 true) 4 true)) (entB F bm bl bi N n s.count (upd (upd (upd (upd (upd (fun _ => undef) 37 (.pointer (some ⟨F, 0, none⟩))) 38 (.pointer (some ⟨F, 0, none⟩))) 39 (.pointer (some ⟨F, 0, none⟩))) 40 (.pointer (some ⟨F, 0, none⟩))) 41 (.pointer (some ⟨F, 5, none⟩)))) _ from ?_)
  refine wpAny_take (i := 6) (v := .int .i64 (n : Int)) rfl (by kernel_rfl) (by kernel_rfl) (by kernel_rfl) (fun _ _ _ h => h) (Or.inl ⟨by rfl, ?hy6⟩) ?rest6
  case hy6 =>
    intro w
    unfold entB
    try unfold upd
    go_simp
    try with_reducible rfl
  refine (show wpAny _ _ _ _ 16 (entM (upd (upd (upd (upd (upd (upd (fun _ => false) 0 true) 1 true) 2 true) 3 true) 4 true) 6 true)) (entB F bm bl bi N n s.count (upd (upd (upd (upd (upd (upd (fun _ => undef) 37 (.pointer (some ⟨F, 0, none⟩))) 38 (.pointer (some ⟨F, 0, none⟩))) 39 (.pointer (some ⟨F, 0, none⟩))) 40 (.pointer (some ⟨F, 0, none⟩))) 41 (.pointer (some ⟨F, 5, none⟩))) 43 (.int .i64 (n : Int)))) _ from ?_)
  refine wpAny_take (i := 9) (v := .pointer (some ⟨F, 0, none⟩)) rfl (by kernel_rfl) (by kernel_rfl) (by kernel_rfl) (fun _ _ _ h => h) (Or.inl ⟨by rfl, ?hy9⟩) ?rest9
  case hy9 =>
    intro w
    unfold entB
    try unfold upd
    go_simp
    try with_reducible rfl
  refine (show wpAny _ _ _ _ 15 (entM (upd (upd (upd (upd (upd (upd (upd (fun _ => false) 0 true) 1 true) 2 true) 3 true) 4 true) 6 true) 9 true)) (entB F bm bl bi N n s.count (upd (upd (upd (upd (upd (upd (upd (fun _ => undef) 37 (.pointer (some ⟨F, 0, none⟩))) 38 (.pointer (some ⟨F, 0, none⟩))) 39 (.pointer (some ⟨F, 0, none⟩))) 40 (.pointer (some ⟨F, 0, none⟩))) 41 (.pointer (some ⟨F, 5, none⟩))) 43 (.int .i64 (n : Int))) 46 (.pointer (some ⟨F, 0, none⟩)))) _ from ?_)
  refine wpAny_take (i := 10) (v := .pointer (some ⟨F, 0, none⟩)) rfl (by kernel_rfl) (by kernel_rfl) (by kernel_rfl) (fun _ _ _ h => h) (Or.inl ⟨by rfl, ?hy10⟩) ?rest10
  case hy10 =>
    intro w
    unfold entB
    try unfold upd
    go_simp
    try with_reducible rfl
  refine (show wpAny _ _ _ _ 14 (entM (upd (upd (upd (upd (upd (upd (upd (upd (fun _ => false) 0 true) 1 true) 2 true) 3 true) 4 true) 6 true) 9 true) 10 true)) (entB F bm bl bi N n s.count (upd (upd (upd (upd (upd (upd (upd (upd (fun _ => undef) 37 (.pointer (some ⟨F, 0, none⟩))) 38 (.pointer (some ⟨F, 0, none⟩))) 39 (.pointer (some ⟨F, 0, none⟩))) 40 (.pointer (some ⟨F, 0, none⟩))) 41 (.pointer (some ⟨F, 5, none⟩))) 43 (.int .i64 (n : Int))) 46 (.pointer (some ⟨F, 0, none⟩))) 47 (.pointer (some ⟨F, 0, none⟩)))) _ from ?_)
  refine wpAny_take (i := 11) (v := .pointer (some ⟨F, 6, none⟩)) rfl (by kernel_rfl) (by kernel_rfl) (by kernel_rfl) (fun _ _ _ h => h) (Or.inl ⟨by rfl, ?hy11⟩) ?rest11
  case hy11 =>
    intro w
    unfold entB
    try unfold upd
    go_simp
    try with_reducible rfl
  refine (show wpAny _ _ _ _ 13 (entM (upd (upd (upd (upd (upd (upd (upd (upd (upd (fun _ => false) 0 true) 1 true) 2 true) 3 true) 4 true) 6 true) 9 true) 10 true) 11 true)) (entB F bm bl bi N n s.count (upd (upd (upd (upd (upd (upd (upd (upd (upd (fun _ => undef) 37 (.pointer (some ⟨F, 0, none⟩))) 38 (.pointer (some ⟨F, 0, none⟩))) 39 (.pointer (some ⟨F, 0, none⟩))) 40 (.pointer (some ⟨F, 0, none⟩))) 41 (.pointer (some ⟨F, 5, none⟩))) 43 (.int .i64 (n : Int))) 46 (.pointer (some ⟨F, 0, none⟩))) 47 (.pointer (some ⟨F, 0, none⟩))) 48 (.pointer (some ⟨F, 6, none⟩)))) _ from ?_)
  refine wpAny_take (i := 13) (v := .int .i64 (n : Int)) rfl (by kernel_rfl) (by kernel_rfl) (by kernel_rfl) (fun _ _ _ h => h) (Or.inl ⟨by rfl, ?hy13⟩) ?rest13
  case hy13 =>
    intro w
    unfold entB
    try unfold upd
    go_simp
    try with_reducible rfl
  refine (show wpAny _ _ _ _ 12 (entM (upd (upd (upd (upd (upd (upd (upd (upd (upd (upd (fun _ => false) 0 true) 1 true) 2 true) 3 true) 4 true) 6 true) 9 true) 10 true) 11 true) 13 true)) (entB F bm bl bi N n s.count (upd (upd (upd (upd (upd (upd (upd (upd (upd (upd (fun _ => undef) 37 (.pointer (some ⟨F, 0, none⟩))) 38 (.pointer (some ⟨F, 0, none⟩))) 39 (.pointer (some ⟨F, 0, none⟩))) 40 (.pointer (some ⟨F, 0, none⟩))) 41 (.pointer (some ⟨F, 5, none⟩))) 43 (.int .i64 (n : Int))) 46 (.pointer (some ⟨F, 0, none⟩))) 47 (.pointer (some ⟨F, 0, none⟩))) 48 (.pointer (some ⟨F, 6, none⟩))) 50 (.int .i64 (n : Int)))) _ from ?_)
  have hlo := ho
  have hlw := hw
  clear f5 f6 HFo HFw Hst3 hF2
  refine (show wpAny _ _ _ _ 12 (entL fun _ => false) (entA F bm bl bi N n s.count fun _ => undef) w3.drew from ?_)
  refine wpAny_inv_to (EntJ w3.drew F bm bl bi base N n s.count (.slice Ao s.opn.length co) (.slice Aw s.way.length cw) s) ?_ _ _ _ _ (by decide) ?_
  · rintro L a w ⟨m, x, k1, k2, va', vb', rfl, rfl, h5, h7, h8, h12, h14, h15, HT0⟩
    have HT := Lib.hid HT0
    clear HT0
    by_cases hall : (m 8 && m 15) = true
    · refine .inr fun fuel hfu => ?_
      have e8 : m 8 = true := by cases e : m 8 <;> simp [e] at hall ⊢
      have e15 : m 15 = true := by cases e : m 15 <;> simp [e] at hall ⊢
      obtain ⟨x8, e5, e7⟩ := h8 e8
      obtain ⟨x15, e12, e14⟩ := h15 e15
      have HT1 := Lib.hid (by have := HT.out; rwa [e7, e8, e14, e15] at this : TwoAt w3.drew base 3 (.slice Ao s.opn.length co) (.slice Aw s.way.length cw) s.opn s.way n true true true true k1 k2 va' vb' w)
      have g5 := HT1.out.frozenF HX2.out.drew (HX2.out.drew.st.frozen 5)
      have g6 := HT1.out.frozenF HX2.out.drew (HX2.out.drew.st.frozen 6)
      have d5 := HT1.out.cellF HX2.out.drew c5
      have d6 := HT1.out.cellF HX2.out.drew c6
      rw [show entL m = #[true, true, true, true, true, true, true, true, true, true, true, true, true, true, true, true, false, false, false, false, false, false] by simp only [entL, e5, e7, e8, e12, e14, e15]] at hfu ⊢
      obtain ⟨fu, rfl⟩ : ∃ fu, fuel = fu + 6 := ⟨fuel - 6, by
        have : leftN #[true, true, true, true, true, true, true, true, true, true, true, true, true, true, true, true, false, false, false, false, false, false] = 6 := by decide
        omega⟩
      unfold entA
      rw [x8, x15]
      obtain ⟨A8, c8, rfl⟩ := own_shape HT1.out.oa
      obtain ⟨A9, c9, rfl⟩ := own_shape HT1.out.ob
      clear x8 x15 h5 h7 h8 h12 h14 h15 hall hfu e8 e15 e5 e7 e12 e14 c5 c6 HT
      refine wpAny_take (i := 16) (v := .pointer (some ⟨F, 0, none⟩)) rfl (by kernel_rfl) (by kernel_rfl) (by kernel_rfl) (fun _ _ _ h => h) (Or.inl ⟨by rfl, ?hz1⟩) ?after1
      case hz1 =>
        intro w
        go_simp
        try with_reducible rfl
      simp only [Act.put]
      refine wpAny_take (i := 17) (v := .pointer (some ⟨F, 5, none⟩)) rfl (by kernel_rfl) (by kernel_rfl) (by kernel_rfl) (fun _ _ _ h => h) (Or.inl ⟨by rfl, ?hz2⟩) ?after2
      case hz2 =>
        intro w
        go_simp
        try with_reducible rfl
      simp only [Act.put]
      refine wpAny_ready (rs := [18]) (by kernel_rfl) (by simp) ?_
      refine AllReady.cons rfl (fun K hK => ?_) AllReady.nil
      go_simp
      refine hK _ _ ?_
      clear hK K
      refine wpAny_take (i := 19) (v := .pointer (some ⟨F, 0, none⟩)) rfl (by kernel_rfl) (by kernel_rfl) (by kernel_rfl) (fun _ _ _ h => h) (Or.inl ⟨by rfl, ?hz3⟩) ?after3
      case hz3 =>
        intro w
        go_simp
        try with_reducible rfl
      simp only [Act.put]
      refine wpAny_take (i := 20) (v := .pointer (some ⟨F, 6, none⟩)) rfl (by kernel_rfl) (by kernel_rfl) (by kernel_rfl) (fun _ _ _ h => h) (Or.inl ⟨by rfl, ?hz4⟩) ?after4
      case hz4 =>
        intro w
        go_simp
        try with_reducible rfl
      simp only [Act.put]
      refine wpAny_ready (rs := [21]) (by kernel_rfl) (by simp) ?_
      refine AllReady.cons rfl (fun K hK => ?_) AllReady.nil
      go_simp
      refine hK _ _ ?_
      clear hK K
      refine wpAny_done (by kernel_rfl) ?_ _
      go_end0
      exact ⟨_, _, rfl, HT1.out.fin HX2.out.drew HE.out, (((below_drewN HBX2.out 1).trans (HT1.out.below HX2.out.drew HB.out.2.2.2.2.2.2)).setCell HB.out.1 _).setCell HB.out.1 _⟩
    · refine .inl ⟨fun i hi => ?_, ?_⟩
      · have hp := ready_all hi (fun i => (i == 5 && !m 5) || (i == 7 && !m 7) || (i == 8 && !m 8 && m 5 && m 7) || (i == 12 && !m 12) || (i == 14 && !m 14) || (i == 15 && !m 15 && m 12 && m 14) || (m 8 && m 15)) (by
          unfold entL
          generalize m 5 = b5, m 7 = b7, m 8 = b8, m 12 = b12, m 14 = b14, m 15 = b15
          cases b5 <;> cases b7 <;> cases b8 <;> cases b12 <;> cases b14 <;> cases b15 <;> kernel_rfl)
        have hii : (i = 5 ∧ m 5 = false) ∨ (i = 7 ∧ m 7 = false) ∨ (i = 8 ∧ m 8 = false ∧ m 5 = true ∧ m 7 = true) ∨ (i = 12 ∧ m 12 = false) ∨ (i = 14 ∧ m 14 = false) ∨ (i = 15 ∧ m 15 = false ∧ m 12 = true ∧ m 14 = true) := by
          simp only [Bool.not_eq_true] at hall
          rw [hall] at hp
          simp only [Bool.or_false, Bool.or_eq_true, Bool.and_eq_true, beq_iff_eq, Bool.not_eq_true', and_assoc, or_assoc] at hp
          exact hp
        clear hi hp
        rcases hii with ⟨rfl, g⟩ | ⟨rfl, g⟩ | ⟨rfl, g, g5, g7⟩ | ⟨rfl, g⟩ | ⟨rfl, g⟩ | ⟨rfl, g, g5, g7⟩
        · have hc := HT.out.cellF HX2.out.drew c5
          refine wpOp_step rfl fun K' hK => ?_
          unfold entA
          go_simp
          exact hK _ _ ⟨upd m 5 true, upd x 5 (.slice Ao s.opn.length co), k1, k2, va', vb', rfl, rfl, fun _ => rfl, h7, fun h => ⟨(h8 h).1, rfl, (h8 h).2.2⟩, h12, h14, h15, HT.out⟩
        · refine wpOp_step rfl fun K' hK => ?_
          unfold entA
          go_simp
          exact hK _ _ ⟨upd m 7 true, upd x 7 (.slice (some ⟨w.heap.size, 0, none⟩) 1 1), w.heap.size, k2, va', vb', rfl, rfl, h5, fun _ => rfl, (fun h => by have := (h8 h).2.2; rw [g] at this; cases this), h12, h14, h15, HT.out.box _⟩
        · refine wpOp_step rfl fun K' hK => ?_
          have HT1 := Lib.hid (by have := HT.out; rwa [g, g7] at this : TwoAt w3.drew base 3 (.slice Ao s.opn.length co) (.slice Aw s.way.length cw) s.opn s.way n true false (m 14) (m 15) k1 k2 va' vb' w)
          have hva := HT1.out.ea rfl
          subst hva
          refine step_append_own (by rfl) (.tmp 42) (.tmp 44) 25 (by rfl) (base := base) eInt _ s.opn.length (nVs s.opn) (h5 g5) HT1.out.oa ⟨k1, 0, none⟩ 1 1 [natV n] (h7 g7) rfl (news1 (HT1.out.n1 rfl).1) (by simp [natV, Value.oneCell']) (by omega) (Nat.le_trans hbs HT1.out.size) ?_
          intro v8 w8 hown8 hg8 hat8
          exact hK _ _ ⟨upd m 8 true, upd x 8 v8, k1, k2, v8, vb', rfl, rfl, h5, h7, fun _ => ⟨rfl, g5, g7⟩, h12, h14, h15, by
            show TwoAt _ _ _ _ _ _ _ _ (m 7) true (m 14) (m 15) _ _ _ _ _
            rw [g7]
            exact HT1.out.app hg8 hown8 hat8⟩
        · have hc := HT.out.cellF HX2.out.drew c6
          refine wpOp_step rfl fun K' hK => ?_
          unfold entA
          go_simp
          exact hK _ _ ⟨upd m 12 true, upd x 12 (.slice Aw s.way.length cw), k1, k2, va', vb', rfl, rfl, h5, h7, h8, fun _ => rfl, h14, fun h => ⟨(h15 h).1, rfl, (h15 h).2.2⟩, HT.out⟩
        · refine wpOp_step rfl fun K' hK => ?_
          unfold entA
          go_simp
          exact hK _ _ ⟨upd m 14 true, upd x 14 (.slice (some ⟨w.heap.size, 0, none⟩) 1 1), k1, w.heap.size, va', vb', rfl, rfl, h5, h7, h8, h12, fun _ => rfl, (fun h => by have := (h15 h).2.2; rw [g] at this; cases this), (HT.out.swap.box _).swap⟩
        · refine wpOp_step rfl fun K' hK => ?_
          have HT1 := Lib.hid (by have := HT.out.swap; rwa [g, g7] at this : TwoAt w3.drew base 3 (.slice Aw s.way.length cw) (.slice Ao s.opn.length co) s.way s.opn n true false (m 7) (m 8) k2 k1 vb' va' w)
          have hva := HT1.out.ea rfl
          subst hva
          refine step_append_own (by rfl) (.tmp 49) (.tmp 51) 25 (by rfl) (base := base) eInt _ s.way.length (nVs s.way) (h12 g5) HT1.out.oa ⟨k2, 0, none⟩ 1 1 [natV n] (h14 g7) rfl (news1 (HT1.out.n1 rfl).1) (by simp [natV, Value.oneCell']) (by omega) (Nat.le_trans hbs HT1.out.size) ?_
          intro v8 w8 hown8 hg8 hat8
          exact hK _ _ ⟨upd m 15 true, upd x 15 v8, k1, k2, va', v8, rfl, rfl, h5, h7, h8, h12, h14, fun _ => ⟨rfl, g5, g7⟩, by
            show TwoAt _ _ _ _ _ _ _ _ (m 7) (m 8) (m 14) true _ _ _ _ _
            rw [g7]
            exact (HT1.out.app hg8 hown8 hat8).swap⟩
      · refine ready_some (c := m 8 && m 15) ?_ hall
        unfold entL
        generalize m 5 = b5, m 7 = b7, m 8 = b8, m 12 = b12, m 14 = b14, m 15 = b15
        cases b5 <;> cases b7 <;> cases b8 <;> cases b12 <;> cases b14 <;> cases b15 <;> kernel_rfl
  · exact ⟨fun _ => false, fun _ => undef, 0, 0, _, _, rfl, rfl, (fun h => by cases h), (fun h => by cases h), (fun h => by cases h), (fun h => by cases h), (fun h => by cases h), (fun h => by cases h), ⟨Nat.le_refl _, ⟨rfl, rfl, rfl⟩, fun _ _ _ _ => rfl, Hoo.out, How.out, fun _ => rfl, fun _ => rfl, Hfar.out, .inl rfl, .inl rfl, (fun h => by cases h), (fun h => by cases h)⟩⟩
theorem enter_said : EnterSaid := fun B F bm bl bx bi bg base N gv vo vw s n w h hB hm hl hi hn hN hc ho hw => enter_any B F bm bl bx bi bg base N gv vo vw s n w h hB hm hl hi hn hN hc ho hw
end Go.Proofs.Ytjmenkjmghmkpaa
