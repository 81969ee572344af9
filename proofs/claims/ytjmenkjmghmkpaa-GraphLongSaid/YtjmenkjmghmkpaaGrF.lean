/- The finder of groups in memory. -/
import Derived.Test.YtjmenkjmghmkpaaGrW5
import Derived.Test.YtjmenkjmghmkpaaGrT
namespace Go.Proofs.Ytjmenkjmghmkpaa
open Go.RowKit
open G22

abbrev nVs (l : List Nat) : List Value := l.map natV
theorem VBlk.nat {w : World} {b : Nat} {t : TypeId} {l : List Nat} (h : VBlk w b t (nVs l)) {i : Nat} (hi : i < l.length) : w.cell? ⟨b, i, none⟩ = some (.int .i64 (gN l i : Nat)) := h.cell (by simp [hi, List.getD, natV, gN])
theorem VBlk.setNat {w : World} {b : Nat} {t : TypeId} {l : List Nat} (h : VBlk w b t (nVs l)) (i x : Nat) : VBlk (w.setCell ⟨b, i, none⟩ (.int .i64 (x : Int))) b t (nVs (l.set i x)) := by
  have := h.set i (natV x)
  rwa [← List.map_set] at this
theorem own_setFar {w : World} {base : Nat} {e : TypeId} {size : Nat} {v : Value} {n : Nat} {xs : List Value} (h : w.ownsRow base e size v n xs) {p : Addr} (hp : p.block < base) (u : Value) : (w.setCell p u).ownsRow base e size v n xs :=
  own_ag h fun g hg => Below.heap_setCell w p u g fun e => by have := (h.lt g hg).1; omega
abbrev slN (b n : Nat) : Value := .slice (some ⟨b, 0, none⟩) n n
structure FinAt (w : World) (F bm bl bx bi bg base N : Nat) (gv vo vw : Value) (s : St) : Prop where
  st : VBlk w F 49 [gv, slN bm N, slN bl N, slN bx N, slN bi N, vo, vw, natV s.count, slN bg N, natV s.last]
  met : VBlk w bm 3 (nVs s.met)
  low : VBlk w bl 3 (nVs s.low)
  nxt : VBlk w bx 3 (nVs s.nxt)
  inn : VBlk w bi 4 (bVs s.inn)
  grp : VBlk w bg 3 (nVs s.group)
  oo : w.ownsRow base 3 1 vo s.opn.length (nVs s.opn)
  ow : w.ownsRow base 3 1 vw s.way.length (nVs s.way)
  far : vo.ownBlock = none ∨ vo.ownBlock ≠ vw.ownBlock
  lt : F < base ∧ bm < base ∧ bl < base ∧ bx < base ∧ bi < base ∧ bg < base ∧ base ≤ w.heap.size
  ne : F ≠ bm ∧ F ≠ bl ∧ F ≠ bx ∧ F ≠ bi ∧ F ≠ bg ∧ bm ≠ bl ∧ bm ≠ bx ∧ bm ≠ bi ∧ bm ≠ bg ∧ bl ≠ bx ∧ bl ≠ bi ∧ bl ≠ bg ∧ bx ≠ bi ∧ bx ≠ bg ∧ bi ≠ bg
section
variable {w w' : World} {F bm bl bx bi bg base N : Nat} {gv vo vw : Value} {s : St}
theorem FinAt.setMet (h : FinAt w F bm bl bx bi bg base N gv vo vw s) (i x : Nat) : FinAt (w.setCell ⟨bm, i, none⟩ (.int .i64 (x : Int))) F bm bl bx bi bg base N gv vo vw { s with met := s.met.set i x } :=
  ⟨h.st.far (by have := h.ne; simp; omega) _, h.met.setNat i x, h.low.far (by have := h.ne; simp; omega) _, h.nxt.far (by have := h.ne; simp; omega) _, h.inn.far (by have := h.ne; simp; omega) _, h.grp.far (by have := h.ne; simp; omega) _, own_setFar h.oo h.lt.2.1 _, own_setFar h.ow h.lt.2.1 _, h.far, by rw [size_setCell]; exact h.lt, h.ne⟩
theorem FinAt.setLow (h : FinAt w F bm bl bx bi bg base N gv vo vw s) (i x : Nat) : FinAt (w.setCell ⟨bl, i, none⟩ (.int .i64 (x : Int))) F bm bl bx bi bg base N gv vo vw { s with low := s.low.set i x } :=
  ⟨h.st.far (by have := h.ne; simp; omega) _, h.met.far (by have := h.ne; simp; omega) _, h.low.setNat i x, h.nxt.far (by have := h.ne; simp; omega) _, h.inn.far (by have := h.ne; simp; omega) _, h.grp.far (by have := h.ne; simp; omega) _, own_setFar h.oo h.lt.2.2.1 _, own_setFar h.ow h.lt.2.2.1 _, h.far, by rw [size_setCell]; exact h.lt, h.ne⟩
theorem FinAt.setNxt (h : FinAt w F bm bl bx bi bg base N gv vo vw s) (i x : Nat) : FinAt (w.setCell ⟨bx, i, none⟩ (.int .i64 (x : Int))) F bm bl bx bi bg base N gv vo vw { s with nxt := s.nxt.set i x } :=
  ⟨h.st.far (by have := h.ne; simp; omega) _, h.met.far (by have := h.ne; simp; omega) _, h.low.far (by have := h.ne; simp; omega) _, h.nxt.setNat i x, h.inn.far (by have := h.ne; simp; omega) _, h.grp.far (by have := h.ne; simp; omega) _, own_setFar h.oo h.lt.2.2.2.1 _, own_setFar h.ow h.lt.2.2.2.1 _, h.far, by rw [size_setCell]; exact h.lt, h.ne⟩
theorem FinAt.setInn (h : FinAt w F bm bl bx bi bg base N gv vo vw s) (i : Nat) (x : Bool) : FinAt (w.setCell ⟨bi, i, none⟩ (.bool x)) F bm bl bx bi bg base N gv vo vw { s with inn := s.inn.set i x } :=
  ⟨h.st.far (by have := h.ne; simp; omega) _, h.met.far (by have := h.ne; simp; omega) _, h.low.far (by have := h.ne; simp; omega) _, h.nxt.far (by have := h.ne; simp; omega) _, h.inn.setBool i x, h.grp.far (by have := h.ne; simp; omega) _, own_setFar h.oo h.lt.2.2.2.2.1 _, own_setFar h.ow h.lt.2.2.2.2.1 _, h.far, by rw [size_setCell]; exact h.lt, h.ne⟩
theorem FinAt.setGrp (h : FinAt w F bm bl bx bi bg base N gv vo vw s) (i x : Nat) : FinAt (w.setCell ⟨bg, i, none⟩ (.int .i64 (x : Int))) F bm bl bx bi bg base N gv vo vw { s with group := s.group.set i x } :=
  ⟨h.st.far (by have := h.ne; simp; omega) _, h.met.far (by have := h.ne; simp; omega) _, h.low.far (by have := h.ne; simp; omega) _, h.nxt.far (by have := h.ne; simp; omega) _, h.inn.far (by have := h.ne; simp; omega) _, h.grp.setNat i x, own_setFar h.oo h.lt.2.2.2.2.2.1 _, own_setFar h.ow h.lt.2.2.2.2.2.1 _, h.far, by rw [size_setCell]; exact h.lt, h.ne⟩
/-- A store into the finder itself. -/
theorem FinAt.setF (h : FinAt w F bm bl bx bi bg base N gv vo vw s) (i : Nat) (u : Value) {vo' vw' : Value} {s' : St}
    (hst : [gv, slN bm N, slN bl N, slN bx N, slN bi N, vo, vw, natV s.count, slN bg N, natV s.last].set i u = [gv, slN bm N, slN bl N, slN bx N, slN bi N, vo', vw', natV s'.count, slN bg N, natV s'.last])
    (h1 : s'.met = s.met ∧ s'.low = s.low ∧ s'.nxt = s.nxt ∧ s'.inn = s.inn ∧ s'.group = s.group)
    (h2 : (w.setCell ⟨F, i, none⟩ u).ownsRow base 3 1 vo' s'.opn.length (nVs s'.opn)) (h3 : (w.setCell ⟨F, i, none⟩ u).ownsRow base 3 1 vw' s'.way.length (nVs s'.way)) (h4 : vo'.ownBlock = none ∨ vo'.ownBlock ≠ vw'.ownBlock) :
    FinAt (w.setCell ⟨F, i, none⟩ u) F bm bl bx bi bg base N gv vo' vw' s' := by
  obtain ⟨e1, e2, e3, e4, e5⟩ := h1
  have hs := h.st.set i u
  rw [hst] at hs
  exact ⟨hs, by rw [e1]; exact h.met.far (by have := h.ne; simp; omega) _, by rw [e2]; exact h.low.far (by have := h.ne; simp; omega) _, by rw [e3]; exact h.nxt.far (by have := h.ne; simp; omega) _, by rw [e4]; exact h.inn.far (by have := h.ne; simp; omega) _, by rw [e5]; exact h.grp.far (by have := h.ne; simp; omega) _, h2, h3, h4, by rw [size_setCell]; exact h.lt, h.ne⟩
theorem FinAt.setCount (h : FinAt w F bm bl bx bi bg base N gv vo vw s) (x : Nat) : FinAt (w.setCell ⟨F, 7, none⟩ (.int .i64 (x : Int))) F bm bl bx bi bg base N gv vo vw { s with count := x } :=
  h.setF 7 _ rfl ⟨rfl, rfl, rfl, rfl, rfl⟩ (own_setFar h.oo h.lt.1 _) (own_setFar h.ow h.lt.1 _) h.far
theorem FinAt.setLast (h : FinAt w F bm bl bx bi bg base N gv vo vw s) (x : Nat) : FinAt (w.setCell ⟨F, 9, none⟩ (.int .i64 (x : Int))) F bm bl bx bi bg base N gv vo vw { s with last := x } :=
  h.setF 9 _ rfl ⟨rfl, rfl, rfl, rfl, rfl⟩ (own_setFar h.oo h.lt.1 _) (own_setFar h.ow h.lt.1 _) h.far
theorem FinAt.drewN (h : FinAt w F bm bl bx bi bg base N gv vo vw s) (n : Nat) : FinAt (w.drewN n) F bm bl bx bi bg base N gv vo vw s := ⟨h.st, h.met, h.low, h.nxt, h.inn, h.grp, h.oo, h.ow, h.far, h.lt, h.ne⟩
theorem FinAt.drew (h : FinAt w F bm bl bx bi bg base N gv vo vw s) : FinAt w.drew F bm bl bx bi bg base N gv vo vw s := ⟨h.st, h.met, h.low, h.nxt, h.inn, h.grp, h.oo, h.ow, h.far, h.lt, h.ne⟩
theorem FinAt.cell (h : FinAt w F bm bl bx bi bg base N gv vo vw s) :
    w.cell? ⟨F, 0, none⟩ = some gv ∧ w.cell? ⟨F, 1, none⟩ = some (.slice (some ⟨bm, 0, none⟩) N N) ∧ w.cell? ⟨F, 2, none⟩ = some (.slice (some ⟨bl, 0, none⟩) N N) ∧ w.cell? ⟨F, 3, none⟩ = some (.slice (some ⟨bx, 0, none⟩) N N) ∧ w.cell? ⟨F, 4, none⟩ = some (.slice (some ⟨bi, 0, none⟩) N N) ∧
    w.cell? ⟨F, 5, none⟩ = some vo ∧ w.cell? ⟨F, 6, none⟩ = some vw ∧ w.cell? ⟨F, 7, none⟩ = some (.int .i64 (s.count : Int)) ∧ w.cell? ⟨F, 8, none⟩ = some (.slice (some ⟨bg, 0, none⟩) N N) ∧ w.cell? ⟨F, 9, none⟩ = some (.int .i64 (s.last : Int)) :=
  ⟨h.st.cell (i := 0) rfl, h.st.cell (i := 1) rfl, h.st.cell (i := 2) rfl, h.st.cell (i := 3) rfl, h.st.cell (i := 4) rfl, h.st.cell (i := 5) rfl, h.st.cell (i := 6) rfl, h.st.cell (i := 7) rfl, h.st.cell (i := 8) rfl, h.st.cell (i := 9) rfl⟩
end
/-- All of the finder's blocks are from block B on. -/
def From (B F bm bl bx bi bg base : Nat) : Prop := B ≤ F ∧ B ≤ bm ∧ B ≤ bl ∧ B ≤ bx ∧ B ≤ bi ∧ B ≤ bg ∧ B ≤ base
end Go.Proofs.Ytjmenkjmghmkpaa
