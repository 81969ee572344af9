/- dimacs.ParseProof. -/
import Derived.Test.YtgfbmidpiamkhaaDoorQDiW7
namespace Go.Proofs.YtgfbmidpiamkhaaDoor
open Go.RowKit
open C01 D28

/-- the error, the line, the clauses -/
def gR (most full vars : Int) (a : Bs) : Int × Int × Option (List (List Int)) := match linesG most vars ([], false) (linesOf a) with
  | (g, 0, _) => if g.2 = true then (1, endOf a, none) else (0, 0, some g.1)
  | (_, 1, n) => (1, n, none)
  | (_, _, n) => (full, n, none)
theorem PP1Post.ok {B G : Nat} {most full vars : Int} {a : Bs} {w w' : World} {e : Ending} {out : List (List Int)} {c n : Int} (h : PP1Post B G most full vars a w e w') (hr : gR most full vars a = (c, n, some out)) : e = .returned (.tuple #[]) ∧ Kp (keepG G B) w w' ∧ GAt w' B G out false most full vars ∧ c = 0 ∧ n = 0 := by
  obtain ⟨h1, h2⟩ := h
  unfold gR at hr
  rcases hl : linesG most vars ([], false) (linesOf a) with ⟨g, _ | _ | k, q⟩ <;> rw [hl] at h2 hr
  · have hr : (if g.2 = true then ((1 : Int), ((endOf a : Nat) : Int), (none : Option (List (List Int)))) else (0, 0, some g.1)) = (c, n, some out) := hr
    have h2 : (if g.2 = true then e = .panicked (flt 1 (endOf a)) else e = .returned (.tuple #[]) ∧ GAt w' B G g.1 false most full vars) := h2
    split at hr
    · simp at hr
    · rename_i h0
      rw [if_neg h0] at h2
      simp only [Prod.mk.injEq, Option.some.injEq] at hr
      rw [← hr.2.2]
      exact ⟨h2.1, h1, h2.2, hr.1.symm, hr.2.1.symm⟩
  · simp at hr
  · simp at hr
theorem PP1Post.bad {B G : Nat} {most full vars : Int} {a : Bs} {w w' : World} {e : Ending} {c n : Int} (h : PP1Post B G most full vars a w e w') (hr : gR most full vars a = (c, n, none)) : e = .panicked (flt c n) ∧ Kp (keepG G B) w w' := by
  obtain ⟨h1, h2⟩ := h
  unfold gR at hr
  rcases hl : linesG most vars ([], false) (linesOf a) with ⟨g, _ | _ | k, q⟩ <;> rw [hl] at h2 hr
  · have hr : (if g.2 = true then ((1 : Int), ((endOf a : Nat) : Int), (none : Option (List (List Int)))) else (0, 0, some g.1)) = (c, n, none) := hr
    have h2 : (if g.2 = true then e = .panicked (flt 1 (endOf a)) else e = .returned (.tuple #[]) ∧ GAt w' B G g.1 false most full vars) := h2
    split at hr
    · rename_i h0
      rw [if_pos h0] at h2
      simp only [Prod.mk.injEq, and_true] at hr
      rw [← hr.1, ← hr.2]
      exact ⟨h2, h1⟩
    · simp at hr
  · simp only [Prod.mk.injEq, and_true] at hr
    rw [← hr.1, ← hr.2]
    exact ⟨h2, h1⟩
  · simp only [Prod.mk.injEq, and_true] at hr
    rw [← hr.1, ← hr.2]
    exact ⟨h2, h1⟩
/-- behind the closure -/
structure PPA (w0 w : World) (G gb : Nat) (most full vars : Int) (o : Option (List (List Int))) (w' : World) : Prop where
  below : Below w0.heap.size w0 w'
  size : w.heap.size + 2 ≤ w'.heap.size
  gb : w'.cell? ⟨gb, 0, none⟩ = some (.pointer (some ⟨G, 0, none⟩))
  gat : ∀ out, o = some out → GAt w' (w.heap.size + 2) G out false most full vars
theorem PPA.after {w0 w w2 w' : World} {G gb : Nat} {most full vars : Int} {o : Option (List (List Int))} (h : PPA w0 w G gb most full vars o w2) (hk : Kp (nAB w.heap.size (w.heap.size + 1)) w2 w') (hG : G < w.heap.size) (hgb : gb < w.heap.size) (h0 : w0.heap.size ≤ w.heap.size) : PPA w0 w G gb most full vars o w' := by
  have hsz := h.size
  have h1 : Below w.heap.size w2 w' := hk.below (by omega) fun b o hb _ => ⟨by omega, by omega⟩
  refine ⟨h.below.trans (h1.mono h0), Nat.le_trans hsz hk.size, (h1.cell (p := ⟨gb, 0, none⟩) hgb).trans h.gb, fun out e => ?_⟩
  obtain ⟨v, vs, g1, g2⟩ := h.gat out e
  exact ⟨v, vs, (h1.block G hG).trans g1, g2.kp hk fun b c t f hb _ => ⟨by omega, by omega⟩⟩
theorem guardPP {a : Bs} {m most full vars c n : Int} {o : Option (List (List Int))} {w0 w : World} {sb G gb : Nat} (hb : Below w0.heap.size w0 w) (hG0 : w0.heap.size ≤ G) (hm : w.cell? ⟨0, 0, none⟩ = some (.int .i64 m)) (hs : w.cell? ⟨sb, 0, none⟩ = some (sv a))
    (hg : w.cell? ⟨gb, 0, none⟩ = some (.pointer (some ⟨G, 0, none⟩))) (hgb : gb ≠ G) (hG : w.heap[G]? = some (.cells #[.slice none 0 0, .bool false, .int .i64 most, .int .i64 full, .int .i64 vars] 68 (0, 0))) (ha : a.length ≤ 900000) (hr : gR most full vars a = (c, n, o)) :
    Calls Tryd.prog 25 #[.func (.func 34) #[] #[.pointer (some ⟨sb, 0, none⟩), .pointer (some ⟨gb, 0, none⟩)]] w fun e w' => e = .returned (.tuple #[.int .i64 c, .int .i64 n]) ∧ PPA w0 w G gb most full vars o w' := by
  have hGl := (Array.getElem?_eq_some_iff.1 hG).1
  have hgl := World.block_lt_of_cell? w _ hg
  have hsl := World.block_lt_of_cell? w _ hs
  have key : ∀ w1, Below w.heap.size w w1 → w1.heap.size = w.heap.size + 2 → EN w1 w.heap.size (w.heap.size + 1) 0 0 → ∀ e w', PP1Post w1.heap.size G most full vars a w1 e w' → EN w' w.heap.size (w.heap.size + 1) 0 0 ∧ PPA w0 w G gb most full vars o w' := by
    intro w1 hb1 hz1 hE e w' hp
    have hp' := hp
    obtain ⟨hk, -⟩ := hp'
    have hkl : ∀ b c t f, b < w1.heap.size → b ≠ G → keepG G w1.heap.size b (.cells c t f) := fun b c t f hb hn => ⟨hn, .inr hb⟩
    refine ⟨hE.kp hk (hkl _ _ _ _ (by omega) (by omega)) (hkl _ _ _ _ (by omega) (by omega)), (hb.trans (hb1.mono hb.size)).trans (hk.below (by have := hb.size; omega) fun b o hb' _ => ⟨by have := hb.size; omega, by cases o <;> first | trivial | exact .inr (by have := hb.size; omega)⟩), by have := hk.size; omega, ?_, fun out e => ?_⟩
    · exact cell_kp ((hb1.cell (p := ⟨gb, 0, none⟩) hgl).trans hg) hk fun c t f _ => hkl _ _ _ _ (by have : gb < w.heap.size := hgl; omega) hgb
    · subst e
      rw [← hz1]
      exact (hp.ok hr).2.2.1
  have hcl : ∀ w1, Below w.heap.size w w1 → Calls Tryd.prog 34 #[.pointer (some ⟨sb, 0, none⟩), .pointer (some ⟨gb, 0, none⟩)] w1 (PP1Post w1.heap.size G most full vars a w1) := fun w1 hb1 =>
    PP1_any a m most full vars sb gb G w1 ((hb1.cell (p := ⟨_, _, _⟩) (World.block_lt_of_cell? w _ hm)).trans hm) ((hb1.cell (p := ⟨sb, 0, none⟩) hsl).trans hs) ((hb1.cell (p := ⟨gb, 0, none⟩) hgl).trans hg) hgb ((hb1.block G hGl).trans hG) ha
  have hcf : ∀ (w : World), (callFunc 34 #[.pointer (some ⟨sb, 0, none⟩), .pointer (some ⟨gb, 0, none⟩)]).run Tryd.prog w = .ok (.enter 34 #[.pointer (some ⟨sb, 0, none⟩), .pointer (some ⟨gb, 0, none⟩)]) w := fun w => enters_of Tryd.func34 (by kernel_rfl) rfl _ w
  cases o with
  | some out =>
    obtain ⟨rfl, rfl⟩ : c = 0 ∧ n = 0 := by
      unfold gR at hr
      rcases hl : linesG most vars ([], false) (linesOf a) with ⟨g, _ | _ | k, q⟩ <;> rw [hl] at hr
      · have hr : (if g.2 = true then ((1 : Int), ((endOf a : Nat) : Int), (none : Option (List (List Int)))) else (0, 0, some g.1)) = (c, n, some out) := hr
        split at hr
        · simp at hr
        · simp only [Prod.mk.injEq] at hr; exact ⟨hr.1.symm, hr.2.1.symm⟩
      · simp at hr
      · simp at hr
    refine (guard_ok 34 _ w (PPA w0 w G gb most full vars (some out)) hcf fun w1 hb1 hz1 hE => (hcl w1 hb1).mono fun e w' hp => ⟨(hp.ok hr).1, key w1 hb1 hz1 hE e w' hp⟩).mono ?_
    rintro e w' ⟨rfl, w2, h2, hk⟩
    exact ⟨rfl, h2.after hk hGl hgl hb.size⟩
  | none =>
    refine (guard_bad 34 _ w c n (PPA w0 w G gb most full vars none) hcf fun w1 hb1 hz1 hE => (hcl w1 hb1).mono fun e w' hp => ⟨(hp.bad hr).1, key w1 hb1 hz1 hE e w' hp⟩).mono ?_
    rintro e w' ⟨rfl, w2, h2, hk⟩
    exact ⟨rfl, h2.after hk hGl hgl hb.size⟩
def ProofPost (a : Bs) (w : World) (e : Ending) (w' : World) : Prop :=
  Below w.heap.size w w' ∧ match gR 16384 2 (-1) a with
  | (c, n, some out) => ∃ v, e = .returned (.tuple #[v, .int .i64 c, .int .i64 n]) ∧ RIntss w' (Lt w'.heap.size) v out
  | (c, n, none) => e = .returned (.tuple #[.slice none 0 0, .int .i64 c, .int .i64 n])
theorem gR_ok {most full vars c n : Int} {a : Bs} {out : List (List Int)} (h : gR most full vars a = (c, n, some out)) : c = 0 ∧ n = 0 := by
  unfold gR at h
  rcases hl : linesG most vars ([], false) (linesOf a) with ⟨g, _ | _ | k, q⟩ <;> rw [hl] at h
  · have h : (if g.2 = true then ((1 : Int), ((endOf a : Nat) : Int), (none : Option (List (List Int)))) else (0, 0, some g.1)) = (c, n, some out) := h
    split at h
    · simp at h
    · simp only [Prod.mk.injEq] at h; exact ⟨h.1.symm, h.2.1.symm⟩
  · simp at h
  · simp at h
theorem gR_bad {most vars c n : Int} {a : Bs} (h : gR most 2 vars a = (c, n, none)) : c = 1 ∨ c = 2 := by
  unfold gR at h
  rcases hl : linesG most vars ([], false) (linesOf a) with ⟨g, _ | _ | k, q⟩ <;> rw [hl] at h
  · have h : (if g.2 = true then ((1 : Int), ((endOf a : Nat) : Int), (none : Option (List (List Int)))) else (0, 0, some g.1)) = (c, n, none) := h
    split at h
    · simp only [Prod.mk.injEq] at h; exact .inl h.1.symm
    · simp at h
  · simp only [Prod.mk.injEq] at h; exact .inl h.1.symm
  · simp only [Prod.mk.injEq] at h; exact .inr h.1.symm
set_option maxRecDepth 100000 in
set_option maxHeartbeats 4000000 in
theorem ParseProof_any (a : Bs) (m : Int) (w : World) (hm : w.cell? ⟨0, 0, none⟩ = some (.int .i64 m)) (ha : a.length ≤ 900000) : Calls Tryd.prog 14 #[sv a] w (ProofPost a w) := by
  have hmf : ∀ (fn : Fn) (first cap : Array Value) (w : World), (Instr.makeFunc fn first cap).run Tryd.prog w = .ok (.func fn first cap) w := fun _ _ _ _ => rfl
  rcases hr : gR 16384 2 (-1) a with ⟨c, n, o⟩
  obtain ⟨w1, hw1⟩ : ∃ w1, w1 = ((w.alloc (.cells #[sv a] 9)).alloc (.cells #[.slice none 0 0, .bool false, .int .i64 16384, .int .i64 2, .int .i64 (-1)] 68)).alloc (.cells #[.pointer (some ⟨w.heap.size + 1, 0, none⟩)] 60) := ⟨_, rfl⟩
  have hb1 : Below w.heap.size w w1 := by rw [hw1]; exact ((below_alloc w _).alloc (by simp) _).alloc (by simp; omega) _
  have hs : w1.heap[w.heap.size]? = some (.cells #[sv a] 9 (0, 0)) := by rw [hw1]; exact heap_at_alloc (heap_at_alloc (heap_alloc_new w _))
  have hG : w1.heap[w.heap.size + 1]? = some (.cells #[.slice none 0 0, .bool false, .int .i64 16384, .int .i64 2, .int .i64 (-1)] 68 (0, 0)) := by rw [hw1]; exact heap_at_alloc (heap_new (by simp))
  have hg : w1.heap[w.heap.size + 1 + 1]? = some (.cells #[.pointer (some ⟨w.heap.size + 1, 0, none⟩)] 60 (0, 0)) := by rw [hw1]; exact heap_new (by simp)
  have HGd := Lib.hid (guardPP (sb := w.heap.size) (gb := w.heap.size + 1 + 1) hb1 (by omega) ((hb1.cell (p := ⟨_, _, _⟩) (World.block_lt_of_cell? w _ hm)).trans hm) (cell_of_row _ _ 0 _ _ _ hs) (cell_of_row _ _ 0 _ _ _ hg) (by omega) hG ha hr)
  have HW1 := Lib.hid hw1
  clear hs hG hg hm hw1
  have HP := Lib.hid (show ∀ e w', Below w.heap.size w w' → (match (c, n, o) with
    | (c, n, some out) => ∃ v, e = .returned (.tuple #[v, .int .i64 c, .int .i64 n]) ∧ RIntss w' (Lt w'.heap.size) v out
    | (c, n, none) => e = .returned (.tuple #[.slice none 0 0, .int .i64 c, .int .i64 n])) → ProofPost a w e w' from fun e w' h1 h2 => ⟨h1, by rw [hr]; exact h2⟩)
  cases o with
  | some out =>
    obtain ⟨rfl, rfl⟩ := gR_ok hr
    clear hr
    go_enter Tryd.func14, Tryd.ntmps14
    go_wp2_with fail
    rw [← HW1.out]
    refine HGd.out.mono ?_
    rintro e w2 ⟨rfl, hP⟩
    have h0 := hP.gb
    obtain ⟨v, vs, g1, hRR⟩ := hP.gat out rfl
    have g0 := cell_of_row _ _ 0 _ _ _ g1
    obtain ⟨A, cv, rfl⟩ := hRR.shape
    have HR := Lib.hid (HP.out (.returned (.tuple #[.slice A out.length cv, .int .i64 0, .int .i64 0])) w2 hP.below ⟨_, rfl, RIntss.stable.sub hRR.reads fun b hb => hb.2⟩)
    clear hP hRR g1 HGd
    go_wp2
    go_ret3
    exact HR.out
  | none =>
    have hc := gR_bad hr
    clear hr
    rcases hc with rfl | rfl
    all_goals
      go_enter Tryd.func14, Tryd.ntmps14
      go_wp2_with fail
      rw [← HW1.out]
      refine HGd.out.mono ?_
      rintro e w2 ⟨rfl, hP⟩
      have HR := Lib.hid (HP.out _ w2 hP.below rfl)
      clear hP HGd
      go_wp2
      go_ret3
      exact HR.out
end Go.Proofs.YtgfbmidpiamkhaaDoor
