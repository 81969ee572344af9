/- gather.take: a number more. -/
import Derived.Deep.RegionHeld
import Derived.Deep.RegionHeld3
import Derived.Test.YtgfbmidpiamkhaaDoorZc
namespace Go.Proofs.YtgfbmidpiamkhaaDoor
open Go.RowKit
open D28

/-- the struct gather in memory -/
def GAt (w : World) (B G : Nat) (out : List (List Int)) (opn : Bool) (most full vars : Int) : Prop :=
  ∃ v vs, w.heap[G]? = some (.cells #[v, .bool opn, .int .i64 most, .int .i64 full, .int .i64 vars] 68 (0, 0)) ∧ RR w B v vs out
/-- what gather's methods leave as it is -/
def keepG (G B : Nat) (b : Nat) (o : Obj) : Prop := b ≠ G ∧ match o with
  | .cells _ t _ => ¬ rowT t ∨ b < B
  | _ => True
theorem not_rowT_G : ¬ rowT 68 := by unfold rowT; decide
theorem GAt.up {w w' : World} {B G : Nat} {out : List (List Int)} {opn : Bool} {most full vars : Int} (h : GAt w B G out opn most full vars) (hb : Below w.heap.size w w') : GAt w' B G out opn most full vars := by
  obtain ⟨v, vs, h1, h2⟩ := h
  exact ⟨v, vs, (hb.block G (Array.getElem?_eq_some_iff.1 h1).1).trans h1, h2.up hb⟩
theorem keepG_below {w w' : World} {G B : Nat} (h : Below w.heap.size w w') : Kp (keepG G B) w w' := Kp.of_below h
/-- rows of B's are grown -/
theorem keepG_grown {w w' : World} {G B : Nat} {e : TypeId} {v : Value} {n : Nat} {xs : List Value} (ho : w.ownsRow B e 1 v n xs) (he : rowT e) (hg : w.grownBy w' v.ownBlock) : Kp (keepG G B) w w' :=
  Kp.grown hg fun r x hr hx h => by
    obtain ⟨c, hc⟩ := own_obj ho hr
    rw [hx] at hc; cases hc
    rcases h.2 with h | h
    · exact h he
    · have := (ho.lt r hr).1; omega
theorem keepG_set {w : World} {G B k : Nat} (u : Value) : Kp (keepG G B) w (w.setCell ⟨G, k, none⟩ u) := Kp.setCell _ _ _ fun _ _ h => h.1 rfl
theorem keepG_setR {w : World} {G B g k : Nat} {e : TypeId} {n c : Nat} {xs : List Value} (ho : w.ownsRow B e 1 (.slice (some ⟨g, 0, none⟩) n c) n xs) (he : rowT e) (u : Value) : Kp (keepG G B) w (w.setCell ⟨g, k, none⟩ u) :=
  Kp.setCell _ _ _ fun x hx h => by
    obtain ⟨c, hc⟩ := own_obj ho (g := g) rfl
    rw [hx] at hc; cases hc
    rcases h.2 with h | h
    · exact h he
    · have := (ho.lt g rfl).1
      exact absurd h (Nat.not_lt.2 this)
def TakePost (B G : Nat) (most full vars : Int) (out : List (List Int)) (opn : Bool) (n at_ : Int) (w : World) (e : Ending) (w' : World) : Prop :=
  Kp (keepG G B) w w' ∧ match takeG most vars (out, opn) n with
  | (g, 0) => e = .returned (.tuple #[]) ∧ GAt w' B G g.1 g.2 most full vars
  | (_, 1) => e = .panicked (flt 1 at_)
  | (_, _) => e = .panicked (flt full at_)
theorem i64_range {n : Int} (h : -9223372036854775807 ≤ n ∧ n ≤ 9223372036854775807) : IntKind.i64.wrap (-n) = -n := by rw [IntKind.wrap_i64]; omega
theorem GAt.cells {w : World} {G : Nat} {v o m f x : Value} (h : w.heap[G]? = some (.cells #[v, o, m, f, x] 68 (0, 0))) :
    w.cell? ⟨G, 0, none⟩ = some v ∧ w.cell? ⟨G, 1, none⟩ = some o ∧ w.cell? ⟨G, 2, none⟩ = some m ∧ w.cell? ⟨G, 3, none⟩ = some f ∧ w.cell? ⟨G, 4, none⟩ = some x ∧ w.frozen? ⟨G, 0, none⟩ = false ∧ w.frozen? ⟨G, 1, none⟩ = false :=
  ⟨cell_of_row _ _ 0 _ _ (0, 0) h, cell_of_row _ _ 1 _ _ (0, 0) h, cell_of_row _ _ 2 _ _ (0, 0) h, cell_of_row _ _ 3 _ _ (0, 0) h, cell_of_row _ _ 4 _ _ (0, 0) h, frozen_of_row _ _ _ _ _ h, frozen_of_row _ _ _ _ _ h⟩
set_option maxRecDepth 100000 in
set_option maxHeartbeats 4000000 in
theorem take_any (B G : Nat) (most full vars : Int) (out : List (List Int)) (opn : Bool) (n at_ : Int) (w : World) (hG : GAt w B G out opn most full vars) (hB : B ≤ w.heap.size) (hn : -999999999 ≤ n ∧ n ≤ 999999999) (hl : out.length ≤ 900000000000) (hr : ∀ c ∈ out, c.length ≤ 900000000000)
    (ho : opn = true → out ≠ []) : Calls Tryd.prog 29 #[.pointer (some ⟨G, 0, none⟩), .int .i64 n, .int .i64 at_] w (TakePost B G most full vars out opn n at_ w) := by
  have HF := Lib.hid (fun c w => fail_any c at_ w)
  obtain ⟨v, vs, hG0, hR0⟩ := hG
  obtain ⟨A, cv, rfl⟩ := hR0.shape
  obtain ⟨g0, g1, g2, g3, g4, f0, f1⟩ := GAt.cells hG0
  have hwn := i64_range (n := n) (by omega)
  have hB0 := Lib.hid hB
  by_cases hfull : opn = false ∧ most ≤ out.length
  · obtain ⟨rfl, hm⟩ := hfull
    have HP := Lib.hid (show ∀ w', Kp (keepG G B) w w' → TakePost B G most full vars out false n at_ w (.panicked (flt full at_)) w' from fun w' hk => ⟨hk, by unfold takeG; rw [if_pos ⟨rfl, hm⟩]; exact rfl⟩)
    clear ho hr hR0 hG0 hwn
    go_enter Tryd.func29, Tryd.ntmps29
    go_wp2_with (go_at_call 31; refine (HF.out _ _).mono ?_; rintro e w1 ⟨rfl, rfl⟩)
    go_quiet (fail)
    go_wp2_with (go_at_call 31; refine (HF.out _ _).mono ?_; rintro e w1 ⟨rfl, rfl⟩)
    exact ⟨rfl, HP.out _ (Kp.of_below (below_drewN (Below.refl _ _) _))⟩
  obtain ⟨out', hout⟩ : ∃ out', out' = if opn = true then out else out ++ [[]] := ⟨_, rfl⟩
  have hl' : out'.length ≤ 900000000001 := by rw [hout]; split <;> first | omega | (simp; omega)
  have hr' : ∀ c ∈ out', c.length ≤ 900000000000 := by
    rw [hout]; split
    · exact hr
    · intro c hc; simp only [List.mem_append, List.mem_singleton] at hc
      rcases hc with hc | rfl
      · exact hr c hc
      · simp
  have hne : out' ≠ [] := by
    rw [hout]; cases opn with
    | true => exact ho rfl
    | false => simp
  have htk : takeG most vars (out, opn) n = if n = 0 then ((out', false), 0) else if 0 ≤ vars ∧ (vars < n ∨ vars < -n) then ((out', true), 1) else ((pushLast out' n, true), 0) := by
    unfold takeG; rw [if_neg hfull, hout]
  have H0 := Lib.hid (show n = 0 → ∀ w', Kp (keepG G B) w w' → GAt w' B G out' false most full vars → TakePost B G most full vars out opn n at_ w (.returned (.tuple #[])) w' from fun h w' hk hg => ⟨hk, by rw [htk, if_pos h]; exact ⟨rfl, hg⟩⟩)
  have H1 := Lib.hid (show n ≠ 0 → (0 ≤ vars ∧ (vars < n ∨ vars < -n)) → ∀ w', Kp (keepG G B) w w' → TakePost B G most full vars out opn n at_ w (.panicked (flt 1 at_)) w' from fun h h2 w' hk => ⟨hk, by rw [htk, if_neg h, if_pos h2]; exact rfl⟩)
  have H2 := Lib.hid (show n ≠ 0 → ¬ (0 ≤ vars ∧ (vars < n ∨ vars < -n)) → ∀ w', Kp (keepG G B) w w' → GAt w' B G (pushLast out' n) true most full vars → TakePost B G most full vars out opn n at_ w (.returned (.tuple #[])) w' from fun h h2 w' hk hg => ⟨hk, by rw [htk, if_neg h, if_neg h2]; exact ⟨rfl, hg⟩⟩)
  clear htk ho
  cases opn with
  | true =>
    obtain rfl : out' = out := by rw [hout]; rfl
    have HG := Lib.hid hG0
    have HR := Lib.hid hR0
    have HK := Lib.hid (Kp.refl (keepG G B) w)
    clear hout hfull hG0 hR0 hr hl
    by_cases hz : n = 0
    · subst hz
      have HP := Lib.hid (H0.out rfl)
      have hR1 := HR.out
      have hG1 := HG.out
      have HGA := Lib.hid (show GAt (w.setCell ⟨G, 1, none⟩ (.bool false)) B G out' false most full vars from ⟨_, _, heap_setCell_same w G 1 _ _ _ hG1, hR1.setCell hG1 not_rowT_G _⟩)
      have HKp := Lib.hid (HK.out.trans (keepG_set (k := 1) (.bool false)))
      clear hR1 hG1 HR HG HK H1 H2 H0 hwn hn
      go_enter Tryd.func29, Tryd.ntmps29
      go_wp2_with (go_at_call 31; refine (HF.out _ _).mono ?_; rintro e w1 ⟨rfl, rfl⟩)
      refine bodyPost_ret (results_none rfl _ _ _) rfl ?_
      exact HP.out _ HKp.out HGA.out
    have hz2 : (n == 0) = false := by simp [hz]
    by_cases hb : 0 ≤ vars ∧ (vars < n ∨ vars < -n)
    · have HP := Lib.hid (H1.out hz hb)
      obtain ⟨hv, hb⟩ := hb
      clear H0 H1 H2 HR HG
      rcases Int.lt_or_gt_of_ne hz with hs | hs
      · have hmx : n < -n := by omega
        have hgt : vars < -n := by omega
        clear hb hn hz
        go_enter Tryd.func29, Tryd.ntmps29
        go_wp2_with (go_at_call 31; refine (HF.out _ _).mono ?_; rintro e w1 ⟨rfl, rfl⟩)
        exact ⟨rfl, HP.out _ HK.out⟩
      · have hmx : ¬ n < -n := by omega
        have hgt : vars < n := by omega
        clear hb hn hz
        go_enter Tryd.func29, Tryd.ntmps29
        go_wp2_with (go_at_call 31; refine (HF.out _ _).mono ?_; rintro e w1 ⟨rfl, rfl⟩)
        exact ⟨rfl, HP.out _ HK.out⟩
    have HP := Lib.hid (H2.out hz hb)
    obtain ⟨k, hk⟩ : ∃ k, k + 1 = out'.length := ⟨out'.length - 1, by have := List.length_pos_iff.2 hne; omega⟩
    have hkl : k < out'.length := by omega
    obtain ⟨gw, cw, hgw⟩ : ∃ gw cw, Value.slice A out'.length cv = .slice (some ⟨gw, 0, none⟩) out'.length cw := by obtain ⟨g, c2, e, _⟩ := own_block HR.out.own (by omega); exact ⟨g, c2, e⟩
    simp only [Value.slice.injEq, true_and] at hgw
    obtain ⟨rfl, rfl⟩ := hgw
    have HRR := HR
    obtain ⟨u, hu⟩ : ∃ u, vs[k]? = some u := ⟨_, List.getElem?_eq_getElem (by rw [HR.out.len]; exact hkl)⟩
    obtain ⟨c, hc⟩ : ∃ c, out'[k]? = some c := ⟨_, List.getElem?_eq_getElem hkl⟩
    have hrow := HR.out.row k u c hu hc
    obtain ⟨Ar, cr, rfl⟩ := own_shape hrow
    have Hrow := Lib.hid hrow
    have Hvk := Lib.hid hu
    have Hck := Lib.hid hc
    have hcl : c.length ≤ 900000000000 := hr' c (List.mem_of_getElem? hc)
    have HPL := Lib.hid (show pushLast out' n = out'.set k (c ++ [n]) from pushLast_set hc hk)
    have d0 : w.cell? ⟨gw, k, none⟩ = some (.slice Ar c.length cr) := by rw [HR.out.own.cellAt k (by omega)]; exact hu
    have hgwl := (HR.out.own.lt gw rfl).2
    have d1 : ((w.alloc (.cells #[nV n] 3)).drew).cell? ⟨gw, k, none⟩ = some (.slice Ar c.length cr) := (World.cell?_of_block (a := ⟨gw, k, none⟩) (Below.heap_alloc w _ gw hgwl)).trans d0
    have hGl := (Array.getElem?_eq_some_iff.1 HG.out).1
    have g0a : ((w.alloc (.cells #[nV n] 3)).drew).cell? ⟨G, 0, none⟩ = some (.slice (some ⟨gw, 0, none⟩) out'.length cv) := (World.cell?_of_block (a := ⟨G, 0, none⟩) (Below.heap_alloc w _ G hGl)).trans g0
    have hGgw : G ≠ gw := fun e => by subst e; obtain ⟨q2, hq2⟩ := own_obj HR.out.own (g := G) rfl; rw [HG.out] at hq2; exact absurd (Obj.cells.inj (Option.some.inj hq2)).2.1 (by decide)
    have hws : IntKind.i64.wrap ((out'.length : Int) - 1) = (k : Int) := by rw [IntKind.wrap_i64]; omega
    have hk0 : (0 : Int) ≤ (k : Int) := by omega
    have hks : (k : Int) < (out'.length : Int) := by omega
    have hBW : B ≤ w.heap.size := Nat.le_trans hB0.out HK.out.size
    clear hrow hu hc H0 H1 H2 hne hr' hl' hgwl
    have hways : vars < 0 ∨ (0 ≤ vars ∧ n < -n ∧ ¬ vars < -n) ∨ (0 ≤ vars ∧ ¬ n < -n ∧ ¬ vars < n) := by omega
    clear hb hn
    rcases hways with hv | ⟨hv, hmx, hgt⟩ | ⟨hv, hmx, hgt⟩
    · skip
      go_enter Tryd.func29, Tryd.ntmps29
      go_wp2_with (go_at_call 31; refine (HF.out _ _).mono ?_; rintro e w1 ⟨rfl, rfl⟩)
      refine wp_region_held_drew (S := (fun w' => w'.cell? ⟨G, 0, none⟩ = some (.slice (some ⟨gw, 0, none⟩) out'.length cv))) (by kernel_rfl) g0 (fun hHeld => ?_)
      refine wpAnyH_take (i := 0) (v := ?_) rfl (by kernel_rfl) (by kernel_rfl) (by kernel_rfl) (fun _ _ _ h => h) (Or.inl ⟨by rfl, ?_⟩) (by assumption) ?_
      rotate_left
      · intro w1 hSw
        (try dsimp only at hSw)
        go_simp
        (try with_reducible rfl)
      (try dsimp only [Act.put, List.setIfInBounds_toArray, List.set_cons_zero, List.set_cons_succ])
      refine wpAnyH_take (i := 1) (v := ?_) rfl (by kernel_rfl) (by kernel_rfl) (by kernel_rfl) (fun _ _ _ h => h) (Or.inl ⟨by rfl, ?_⟩) (by assumption) ?_
      rotate_left
      · intro w1 hSw
        (try dsimp only at hSw)
        go_simp
        (try with_reducible rfl)
      (try dsimp only [Act.put, List.setIfInBounds_toArray, List.set_cons_zero, List.set_cons_succ])
      refine wpAnyH_take (i := 2) (v := ?_) rfl (by kernel_rfl) (by kernel_rfl) (by kernel_rfl) (fun _ _ _ h => h) (Or.inl ⟨by rfl, ?_⟩) (by assumption) ?_
      rotate_left
      · intro w1 hSw
        (try dsimp only at hSw)
        go_simp
        (try with_reducible rfl)
      (try dsimp only [Act.put, List.setIfInBounds_toArray, List.set_cons_zero, List.set_cons_succ])
      refine wpAnyH_take (i := 3) (v := ?_) rfl (by kernel_rfl) (by kernel_rfl) (by kernel_rfl) (fun _ _ _ h => h) (Or.inl ⟨by rfl, ?_⟩) (by assumption) ?_
      rotate_left
      · intro w1 hSw
        (try dsimp only at hSw)
        go_simp
        (try with_reducible rfl)
      (try dsimp only [Act.put, List.setIfInBounds_toArray, List.set_cons_zero, List.set_cons_succ])
      refine wpAnyH_take (i := 4) (v := ?_) rfl (by kernel_rfl) (by kernel_rfl) (by kernel_rfl) (fun _ _ _ h => h) (Or.inl ⟨by rfl, ?_⟩) (by assumption) ?_
      rotate_left
      · intro w1 hSw
        (try dsimp only at hSw)
        go_simp
        (try with_reducible rfl)
      (try dsimp only [Act.put, List.setIfInBounds_toArray, List.set_cons_zero, List.set_cons_succ])
      refine wpAnyH_take (i := 5) (v := ?_) rfl (by kernel_rfl) (by kernel_rfl) (by kernel_rfl) (fun _ _ _ h => h) (Or.inl ⟨by rfl, ?_⟩) (by assumption) ?_
      rotate_left
      · intro w1 hSw
        (try dsimp only at hSw)
        go_simp
        (try with_reducible rfl)
      (try dsimp only [Act.put, List.setIfInBounds_toArray, List.set_cons_zero, List.set_cons_succ])
      refine wpAnyH_take (i := 6) (v := ?_) rfl (by kernel_rfl) (by kernel_rfl) (by kernel_rfl) (fun _ _ _ h => h) (Or.inl ⟨by rfl, ?_⟩) (by assumption) ?_
      rotate_left
      · intro w1 hSw
        (try dsimp only at hSw)
        go_simp
        (try with_reducible rfl)
      (try dsimp only [Act.put, List.setIfInBounds_toArray, List.set_cons_zero, List.set_cons_succ])
      refine wpAnyH_take (i := 7) (v := ?_) rfl (by kernel_rfl) (by kernel_rfl) (by kernel_rfl) (fun _ _ _ h => h) (Or.inl ⟨by rfl, ?_⟩) (by assumption) ?_
      rotate_left
      · intro w1 hSw
        (try dsimp only at hSw)
        go_simp
        (try with_reducible rfl)
      (try dsimp only [Act.put, List.setIfInBounds_toArray, List.set_cons_zero, List.set_cons_succ])
      refine wpAnyH_take (i := 8) (v := ?_) rfl (by kernel_rfl) (by kernel_rfl) (by kernel_rfl) (fun _ _ _ h => h) (Or.inl ⟨by rfl, ?_⟩) (by assumption) ?_
      rotate_left
      · intro w1 hSw
        (try dsimp only at hSw)
        go_simp
        (try with_reducible rfl)
      (try dsimp only [Act.put, List.setIfInBounds_toArray, List.set_cons_zero, List.set_cons_succ])
      refine wpAnyH_take (i := 9) (v := ?_) rfl (by kernel_rfl) (by kernel_rfl) (by kernel_rfl) (fun _ _ _ h => h) (Or.inl ⟨by rfl, ?_⟩) (by assumption) ?_
      rotate_left
      · intro w1 hSw
        (try dsimp only at hSw)
        go_simp
        (try with_reducible rfl)
      (try dsimp only [Act.put, List.setIfInBounds_toArray, List.set_cons_zero, List.set_cons_succ])
      refine wpAnyH_take (i := 10) (v := ?_) rfl (by kernel_rfl) (by kernel_rfl) (by kernel_rfl) (fun _ _ _ h => h) (Or.inl ⟨by rfl, ?_⟩) (by assumption) ?_
      rotate_left
      · intro w1 hSw
        (try dsimp only at hSw)
        go_simp
        (try with_reducible rfl)
      (try dsimp only [Act.put, List.setIfInBounds_toArray, List.set_cons_zero, List.set_cons_succ])
      refine wpAnyH_take (i := 12) (v := ?_) rfl (by kernel_rfl) (by kernel_rfl) (by kernel_rfl) (fun _ _ _ h => h) (Or.inl ⟨by rfl, ?_⟩) (by assumption) ?_
      rotate_left
      · intro w1 hSw
        (try dsimp only at hSw)
        go_simp
        (try with_reducible rfl)
      (try dsimp only [Act.put, List.setIfInBounds_toArray, List.set_cons_zero, List.set_cons_succ])
      refine wpAnyH_ready (rs := [11, 13]) (by kernel_rfl) (by simp) ?_
      refine AllReadyH.cons rfl (fun K hK => ?_) (AllReadyH.cons rfl (fun K hK => ?_) AllReadyH.nil)
      · skip
        go_simp
        refine hK.out _ _ g0 (fun hHeld => ?_)
        clear hK K
        (try dsimp only [Act.put, List.setIfInBounds_toArray, List.set_cons_zero, List.set_cons_succ])
        refine wpAnyH_ready (rs := [13]) (by kernel_rfl) (by simp) ?_
        refine AllReadyH.cons rfl (fun K hK => ?_) AllReadyH.nil
        go_simp
        refine hK.out _ _ g0a (fun hHeld => ?_)
        clear hK K
        (try dsimp only [Act.put, List.setIfInBounds_toArray, List.set_cons_zero, List.set_cons_succ])
        refine wpAnyH_ready (rs := [14]) (by kernel_rfl) (by simp) ?_
        refine AllReadyH.cons rfl (fun K hK => ?_) AllReadyH.nil
        refine step_push1 (by rfl) _ _ _ (by rfl) eInt (v := .slice Ar c.length cr) (by rfl) (Hrow.out.alloc _) w.heap.size (nV n) (by rfl) (by rw [World.cell?_of_block rfl]; exact box_cell (Below.refl _ _) 0) (by rfl) (by omega) (by simp; omega) ?_
        intro v' w5 hown hg hat
        obtain ⟨A', c', rfl⟩ := own_shape hown
        have hbel : Below w.heap.size w (w.alloc (.cells #[nV n] 3)).drew := (below_alloc _ _).drew
        have H7 := Lib.hid (RR.pushLast HRR.out hbel Hvk.out Hck.out hown hg hat)
        have HKq := Lib.hid ((HK.out.trans (keepG_below hbel)).trans (keepG_grown (G := G) (Hrow.out.alloc _) (.inr rfl) hg))
        have hng : some G ≠ (Value.slice Ar c.length cr).ownBlock := fun e => by obtain ⟨q, hq⟩ := own_obj Hrow.out e.symm; rw [HG.out] at hq; exact absurd (Obj.cells.inj (Option.some.inj hq)).2.1 (by decide)
        have hGlt := (Array.getElem?_eq_some_iff.1 HG.out).1
        have HG5 := Lib.hid ((hg.block G (by simp; omega) hng).trans ((hbel.block G hGlt).trans HG.out))
        have hgn : some gw ≠ (Value.slice Ar c.length cr).ownBlock := fun e => by obtain ⟨q, hq⟩ := own_obj Hrow.out e.symm; obtain ⟨q2, hq2⟩ := own_obj HRR.out.own (g := gw) rfl; rw [hq2] at hq; exact absurd (Obj.cells.inj (Option.some.inj hq)).2.1 (by decide)
        have HO5 := Lib.hid (show w5.ownsRow B 56 1 (.slice (some ⟨gw, 0, none⟩) out'.length cv) out'.length vs from own_ag HRR.out.own fun g hg' => by cases hg'; exact (hg.block gw (by simp; have := (HRR.out.own.lt gw rfl).2; omega) hgn).trans (hbel.block gw (HRR.out.own.lt gw rfl).2))
        have q5 := cell_of_row w5 G 0 _ _ (0, 0) HG5.out
        have q5 : w5.cell? ⟨G, 0, none⟩ = some (.slice (some ⟨gw, 0, none⟩) out'.length cv) := q5
        have hfz : w5.frozen? ⟨gw, k, none⟩ = false := by obtain ⟨q2, hq2⟩ := own_obj HO5.out (g := gw) rfl; exact frozen_of_row _ _ _ _ _ hq2
        have hcw5 : w5.cell? ⟨gw, k, none⟩ = some (.slice Ar c.length cr) := by rw [HO5.out.cellAt k (by omega)]; exact Hvk.out
        clear hown hg hat hbel hng hgn
        refine hK.out _ _ q5 (fun hHeld => ?_)
        clear hK K
        (try dsimp only [Act.put, List.setIfInBounds_toArray, List.set_cons_zero, List.set_cons_succ])
        refine wpAnyH_take (i := 15) (v := ?_) rfl (by kernel_rfl) (by kernel_rfl) (by kernel_rfl) (fun _ _ _ h => h) (Or.inl ⟨by rfl, ?_⟩) (by assumption) ?_
        rotate_left
        · intro w1 hSw
          (try dsimp only at hSw)
          go_simp
          (try with_reducible rfl)
        (try dsimp only [Act.put, List.setIfInBounds_toArray, List.set_cons_zero, List.set_cons_succ])
        refine wpAnyH_ready (rs := [16]) (by kernel_rfl) (by simp) ?_
        refine AllReadyH.cons rfl (fun K hK => ?_) AllReadyH.nil
        go_simp
        refine hK.out _ _ (by rw [World.cell?_setCell_far _ _ _ _ (fun e => hGgw e.symm)]; exact q5) (fun hHeld => ?_)
        clear hK K
        (try dsimp only [Act.put, List.setIfInBounds_toArray, List.set_cons_zero, List.set_cons_succ])
        refine wpAnyH_done (by kernel_rfl) ?_ _
        have HGA := Lib.hid (show GAt (w5.setCell ⟨gw, k, none⟩ (.slice A' (c.length + 1) c')) B G (pushLast out' n) true most full vars from ⟨_, _, (Below.heap_setCell w5 ⟨gw, k, none⟩ _ G hGgw).trans HG5.out, by rw [HPL.out]; simpa using H7.out⟩)
        have HKz := Lib.hid (HKq.out.trans (keepG_setR (G := G) (k := k) HO5.out (.inl rfl) (.slice A' (c.length + 1) c')))
        clear H7 q5
        go_wp2
        refine bodyPost_ret (results_none rfl _ _ _) rfl ?_
        exact HP.out _ HKz.out HGA.out
      · skip
        go_simp
        refine hK.out _ _ g0a (fun hHeld => ?_)
        clear hK K
        (try dsimp only [Act.put, List.setIfInBounds_toArray, List.set_cons_zero, List.set_cons_succ])
        refine wpAnyH_ready (rs := [11]) (by kernel_rfl) (by simp) ?_
        refine AllReadyH.cons rfl (fun K hK => ?_) AllReadyH.nil
        go_simp
        refine hK.out _ _ g0a (fun hHeld => ?_)
        clear hK K
        (try dsimp only [Act.put, List.setIfInBounds_toArray, List.set_cons_zero, List.set_cons_succ])
        refine wpAnyH_ready (rs := [14]) (by kernel_rfl) (by simp) ?_
        refine AllReadyH.cons rfl (fun K hK => ?_) AllReadyH.nil
        refine step_push1 (by rfl) _ _ _ (by rfl) eInt (v := .slice Ar c.length cr) (by rfl) (Hrow.out.alloc _) w.heap.size (nV n) (by rfl) (by rw [World.cell?_of_block rfl]; exact box_cell (Below.refl _ _) 0) (by rfl) (by omega) (by simp; omega) ?_
        intro v' w5 hown hg hat
        obtain ⟨A', c', rfl⟩ := own_shape hown
        have hbel : Below w.heap.size w (w.alloc (.cells #[nV n] 3)).drew := (below_alloc _ _).drew
        have H7 := Lib.hid (RR.pushLast HRR.out hbel Hvk.out Hck.out hown hg hat)
        have HKq := Lib.hid ((HK.out.trans (keepG_below hbel)).trans (keepG_grown (G := G) (Hrow.out.alloc _) (.inr rfl) hg))
        have hng : some G ≠ (Value.slice Ar c.length cr).ownBlock := fun e => by obtain ⟨q, hq⟩ := own_obj Hrow.out e.symm; rw [HG.out] at hq; exact absurd (Obj.cells.inj (Option.some.inj hq)).2.1 (by decide)
        have hGlt := (Array.getElem?_eq_some_iff.1 HG.out).1
        have HG5 := Lib.hid ((hg.block G (by simp; omega) hng).trans ((hbel.block G hGlt).trans HG.out))
        have hgn : some gw ≠ (Value.slice Ar c.length cr).ownBlock := fun e => by obtain ⟨q, hq⟩ := own_obj Hrow.out e.symm; obtain ⟨q2, hq2⟩ := own_obj HRR.out.own (g := gw) rfl; rw [hq2] at hq; exact absurd (Obj.cells.inj (Option.some.inj hq)).2.1 (by decide)
        have HO5 := Lib.hid (show w5.ownsRow B 56 1 (.slice (some ⟨gw, 0, none⟩) out'.length cv) out'.length vs from own_ag HRR.out.own fun g hg' => by cases hg'; exact (hg.block gw (by simp; have := (HRR.out.own.lt gw rfl).2; omega) hgn).trans (hbel.block gw (HRR.out.own.lt gw rfl).2))
        have q5 := cell_of_row w5 G 0 _ _ (0, 0) HG5.out
        have q5 : w5.cell? ⟨G, 0, none⟩ = some (.slice (some ⟨gw, 0, none⟩) out'.length cv) := q5
        have hfz : w5.frozen? ⟨gw, k, none⟩ = false := by obtain ⟨q2, hq2⟩ := own_obj HO5.out (g := gw) rfl; exact frozen_of_row _ _ _ _ _ hq2
        have hcw5 : w5.cell? ⟨gw, k, none⟩ = some (.slice Ar c.length cr) := by rw [HO5.out.cellAt k (by omega)]; exact Hvk.out
        clear hown hg hat hbel hng hgn
        refine hK.out _ _ q5 (fun hHeld => ?_)
        clear hK K
        (try dsimp only [Act.put, List.setIfInBounds_toArray, List.set_cons_zero, List.set_cons_succ])
        refine wpAnyH_take (i := 15) (v := ?_) rfl (by kernel_rfl) (by kernel_rfl) (by kernel_rfl) (fun _ _ _ h => h) (Or.inl ⟨by rfl, ?_⟩) (by assumption) ?_
        rotate_left
        · intro w1 hSw
          (try dsimp only at hSw)
          go_simp
          (try with_reducible rfl)
        (try dsimp only [Act.put, List.setIfInBounds_toArray, List.set_cons_zero, List.set_cons_succ])
        refine wpAnyH_ready (rs := [16]) (by kernel_rfl) (by simp) ?_
        refine AllReadyH.cons rfl (fun K hK => ?_) AllReadyH.nil
        go_simp
        refine hK.out _ _ (by rw [World.cell?_setCell_far _ _ _ _ (fun e => hGgw e.symm)]; exact q5) (fun hHeld => ?_)
        clear hK K
        (try dsimp only [Act.put, List.setIfInBounds_toArray, List.set_cons_zero, List.set_cons_succ])
        refine wpAnyH_done (by kernel_rfl) ?_ _
        have HGA := Lib.hid (show GAt (w5.setCell ⟨gw, k, none⟩ (.slice A' (c.length + 1) c')) B G (pushLast out' n) true most full vars from ⟨_, _, (Below.heap_setCell w5 ⟨gw, k, none⟩ _ G hGgw).trans HG5.out, by rw [HPL.out]; simpa using H7.out⟩)
        have HKz := Lib.hid (HKq.out.trans (keepG_setR (G := G) (k := k) HO5.out (.inl rfl) (.slice A' (c.length + 1) c')))
        clear H7 q5
        go_wp2
        refine bodyPost_ret (results_none rfl _ _ _) rfl ?_
        exact HP.out _ HKz.out HGA.out
    · skip
      go_enter Tryd.func29, Tryd.ntmps29
      go_wp2_with (go_at_call 31; refine (HF.out _ _).mono ?_; rintro e w1 ⟨rfl, rfl⟩)
      refine wp_region_held_drew (S := (fun w' => w'.cell? ⟨G, 0, none⟩ = some (.slice (some ⟨gw, 0, none⟩) out'.length cv))) (by kernel_rfl) g0 (fun hHeld => ?_)
      refine wpAnyH_take (i := 0) (v := ?_) rfl (by kernel_rfl) (by kernel_rfl) (by kernel_rfl) (fun _ _ _ h => h) (Or.inl ⟨by rfl, ?_⟩) (by assumption) ?_
      rotate_left
      · intro w1 hSw
        (try dsimp only at hSw)
        go_simp
        (try with_reducible rfl)
      (try dsimp only [Act.put, List.setIfInBounds_toArray, List.set_cons_zero, List.set_cons_succ])
      refine wpAnyH_take (i := 1) (v := ?_) rfl (by kernel_rfl) (by kernel_rfl) (by kernel_rfl) (fun _ _ _ h => h) (Or.inl ⟨by rfl, ?_⟩) (by assumption) ?_
      rotate_left
      · intro w1 hSw
        (try dsimp only at hSw)
        go_simp
        (try with_reducible rfl)
      (try dsimp only [Act.put, List.setIfInBounds_toArray, List.set_cons_zero, List.set_cons_succ])
      refine wpAnyH_take (i := 2) (v := ?_) rfl (by kernel_rfl) (by kernel_rfl) (by kernel_rfl) (fun _ _ _ h => h) (Or.inl ⟨by rfl, ?_⟩) (by assumption) ?_
      rotate_left
      · intro w1 hSw
        (try dsimp only at hSw)
        go_simp
        (try with_reducible rfl)
      (try dsimp only [Act.put, List.setIfInBounds_toArray, List.set_cons_zero, List.set_cons_succ])
      refine wpAnyH_take (i := 3) (v := ?_) rfl (by kernel_rfl) (by kernel_rfl) (by kernel_rfl) (fun _ _ _ h => h) (Or.inl ⟨by rfl, ?_⟩) (by assumption) ?_
      rotate_left
      · intro w1 hSw
        (try dsimp only at hSw)
        go_simp
        (try with_reducible rfl)
      (try dsimp only [Act.put, List.setIfInBounds_toArray, List.set_cons_zero, List.set_cons_succ])
      refine wpAnyH_take (i := 4) (v := ?_) rfl (by kernel_rfl) (by kernel_rfl) (by kernel_rfl) (fun _ _ _ h => h) (Or.inl ⟨by rfl, ?_⟩) (by assumption) ?_
      rotate_left
      · intro w1 hSw
        (try dsimp only at hSw)
        go_simp
        (try with_reducible rfl)
      (try dsimp only [Act.put, List.setIfInBounds_toArray, List.set_cons_zero, List.set_cons_succ])
      refine wpAnyH_take (i := 5) (v := ?_) rfl (by kernel_rfl) (by kernel_rfl) (by kernel_rfl) (fun _ _ _ h => h) (Or.inl ⟨by rfl, ?_⟩) (by assumption) ?_
      rotate_left
      · intro w1 hSw
        (try dsimp only at hSw)
        go_simp
        (try with_reducible rfl)
      (try dsimp only [Act.put, List.setIfInBounds_toArray, List.set_cons_zero, List.set_cons_succ])
      refine wpAnyH_take (i := 6) (v := ?_) rfl (by kernel_rfl) (by kernel_rfl) (by kernel_rfl) (fun _ _ _ h => h) (Or.inl ⟨by rfl, ?_⟩) (by assumption) ?_
      rotate_left
      · intro w1 hSw
        (try dsimp only at hSw)
        go_simp
        (try with_reducible rfl)
      (try dsimp only [Act.put, List.setIfInBounds_toArray, List.set_cons_zero, List.set_cons_succ])
      refine wpAnyH_take (i := 7) (v := ?_) rfl (by kernel_rfl) (by kernel_rfl) (by kernel_rfl) (fun _ _ _ h => h) (Or.inl ⟨by rfl, ?_⟩) (by assumption) ?_
      rotate_left
      · intro w1 hSw
        (try dsimp only at hSw)
        go_simp
        (try with_reducible rfl)
      (try dsimp only [Act.put, List.setIfInBounds_toArray, List.set_cons_zero, List.set_cons_succ])
      refine wpAnyH_take (i := 8) (v := ?_) rfl (by kernel_rfl) (by kernel_rfl) (by kernel_rfl) (fun _ _ _ h => h) (Or.inl ⟨by rfl, ?_⟩) (by assumption) ?_
      rotate_left
      · intro w1 hSw
        (try dsimp only at hSw)
        go_simp
        (try with_reducible rfl)
      (try dsimp only [Act.put, List.setIfInBounds_toArray, List.set_cons_zero, List.set_cons_succ])
      refine wpAnyH_take (i := 9) (v := ?_) rfl (by kernel_rfl) (by kernel_rfl) (by kernel_rfl) (fun _ _ _ h => h) (Or.inl ⟨by rfl, ?_⟩) (by assumption) ?_
      rotate_left
      · intro w1 hSw
        (try dsimp only at hSw)
        go_simp
        (try with_reducible rfl)
      (try dsimp only [Act.put, List.setIfInBounds_toArray, List.set_cons_zero, List.set_cons_succ])
      refine wpAnyH_take (i := 10) (v := ?_) rfl (by kernel_rfl) (by kernel_rfl) (by kernel_rfl) (fun _ _ _ h => h) (Or.inl ⟨by rfl, ?_⟩) (by assumption) ?_
      rotate_left
      · intro w1 hSw
        (try dsimp only at hSw)
        go_simp
        (try with_reducible rfl)
      (try dsimp only [Act.put, List.setIfInBounds_toArray, List.set_cons_zero, List.set_cons_succ])
      refine wpAnyH_take (i := 12) (v := ?_) rfl (by kernel_rfl) (by kernel_rfl) (by kernel_rfl) (fun _ _ _ h => h) (Or.inl ⟨by rfl, ?_⟩) (by assumption) ?_
      rotate_left
      · intro w1 hSw
        (try dsimp only at hSw)
        go_simp
        (try with_reducible rfl)
      (try dsimp only [Act.put, List.setIfInBounds_toArray, List.set_cons_zero, List.set_cons_succ])
      refine wpAnyH_ready (rs := [11, 13]) (by kernel_rfl) (by simp) ?_
      refine AllReadyH.cons rfl (fun K hK => ?_) (AllReadyH.cons rfl (fun K hK => ?_) AllReadyH.nil)
      · skip
        go_simp
        refine hK.out _ _ g0 (fun hHeld => ?_)
        clear hK K
        (try dsimp only [Act.put, List.setIfInBounds_toArray, List.set_cons_zero, List.set_cons_succ])
        refine wpAnyH_ready (rs := [13]) (by kernel_rfl) (by simp) ?_
        refine AllReadyH.cons rfl (fun K hK => ?_) AllReadyH.nil
        go_simp
        refine hK.out _ _ g0a (fun hHeld => ?_)
        clear hK K
        (try dsimp only [Act.put, List.setIfInBounds_toArray, List.set_cons_zero, List.set_cons_succ])
        refine wpAnyH_ready (rs := [14]) (by kernel_rfl) (by simp) ?_
        refine AllReadyH.cons rfl (fun K hK => ?_) AllReadyH.nil
        refine step_push1 (by rfl) _ _ _ (by rfl) eInt (v := .slice Ar c.length cr) (by rfl) (Hrow.out.alloc _) w.heap.size (nV n) (by rfl) (by rw [World.cell?_of_block rfl]; exact box_cell (Below.refl _ _) 0) (by rfl) (by omega) (by simp; omega) ?_
        intro v' w5 hown hg hat
        obtain ⟨A', c', rfl⟩ := own_shape hown
        have hbel : Below w.heap.size w (w.alloc (.cells #[nV n] 3)).drew := (below_alloc _ _).drew
        have H7 := Lib.hid (RR.pushLast HRR.out hbel Hvk.out Hck.out hown hg hat)
        have HKq := Lib.hid ((HK.out.trans (keepG_below hbel)).trans (keepG_grown (G := G) (Hrow.out.alloc _) (.inr rfl) hg))
        have hng : some G ≠ (Value.slice Ar c.length cr).ownBlock := fun e => by obtain ⟨q, hq⟩ := own_obj Hrow.out e.symm; rw [HG.out] at hq; exact absurd (Obj.cells.inj (Option.some.inj hq)).2.1 (by decide)
        have hGlt := (Array.getElem?_eq_some_iff.1 HG.out).1
        have HG5 := Lib.hid ((hg.block G (by simp; omega) hng).trans ((hbel.block G hGlt).trans HG.out))
        have hgn : some gw ≠ (Value.slice Ar c.length cr).ownBlock := fun e => by obtain ⟨q, hq⟩ := own_obj Hrow.out e.symm; obtain ⟨q2, hq2⟩ := own_obj HRR.out.own (g := gw) rfl; rw [hq2] at hq; exact absurd (Obj.cells.inj (Option.some.inj hq)).2.1 (by decide)
        have HO5 := Lib.hid (show w5.ownsRow B 56 1 (.slice (some ⟨gw, 0, none⟩) out'.length cv) out'.length vs from own_ag HRR.out.own fun g hg' => by cases hg'; exact (hg.block gw (by simp; have := (HRR.out.own.lt gw rfl).2; omega) hgn).trans (hbel.block gw (HRR.out.own.lt gw rfl).2))
        have q5 := cell_of_row w5 G 0 _ _ (0, 0) HG5.out
        have q5 : w5.cell? ⟨G, 0, none⟩ = some (.slice (some ⟨gw, 0, none⟩) out'.length cv) := q5
        have hfz : w5.frozen? ⟨gw, k, none⟩ = false := by obtain ⟨q2, hq2⟩ := own_obj HO5.out (g := gw) rfl; exact frozen_of_row _ _ _ _ _ hq2
        have hcw5 : w5.cell? ⟨gw, k, none⟩ = some (.slice Ar c.length cr) := by rw [HO5.out.cellAt k (by omega)]; exact Hvk.out
        clear hown hg hat hbel hng hgn
        refine hK.out _ _ q5 (fun hHeld => ?_)
        clear hK K
        (try dsimp only [Act.put, List.setIfInBounds_toArray, List.set_cons_zero, List.set_cons_succ])
        refine wpAnyH_take (i := 15) (v := ?_) rfl (by kernel_rfl) (by kernel_rfl) (by kernel_rfl) (fun _ _ _ h => h) (Or.inl ⟨by rfl, ?_⟩) (by assumption) ?_
        rotate_left
        · intro w1 hSw
          (try dsimp only at hSw)
          go_simp
          (try with_reducible rfl)
        (try dsimp only [Act.put, List.setIfInBounds_toArray, List.set_cons_zero, List.set_cons_succ])
        refine wpAnyH_ready (rs := [16]) (by kernel_rfl) (by simp) ?_
        refine AllReadyH.cons rfl (fun K hK => ?_) AllReadyH.nil
        go_simp
        refine hK.out _ _ (by rw [World.cell?_setCell_far _ _ _ _ (fun e => hGgw e.symm)]; exact q5) (fun hHeld => ?_)
        clear hK K
        (try dsimp only [Act.put, List.setIfInBounds_toArray, List.set_cons_zero, List.set_cons_succ])
        refine wpAnyH_done (by kernel_rfl) ?_ _
        have HGA := Lib.hid (show GAt (w5.setCell ⟨gw, k, none⟩ (.slice A' (c.length + 1) c')) B G (pushLast out' n) true most full vars from ⟨_, _, (Below.heap_setCell w5 ⟨gw, k, none⟩ _ G hGgw).trans HG5.out, by rw [HPL.out]; simpa using H7.out⟩)
        have HKz := Lib.hid (HKq.out.trans (keepG_setR (G := G) (k := k) HO5.out (.inl rfl) (.slice A' (c.length + 1) c')))
        clear H7 q5
        go_wp2
        refine bodyPost_ret (results_none rfl _ _ _) rfl ?_
        exact HP.out _ HKz.out HGA.out
      · skip
        go_simp
        refine hK.out _ _ g0a (fun hHeld => ?_)
        clear hK K
        (try dsimp only [Act.put, List.setIfInBounds_toArray, List.set_cons_zero, List.set_cons_succ])
        refine wpAnyH_ready (rs := [11]) (by kernel_rfl) (by simp) ?_
        refine AllReadyH.cons rfl (fun K hK => ?_) AllReadyH.nil
        go_simp
        refine hK.out _ _ g0a (fun hHeld => ?_)
        clear hK K
        (try dsimp only [Act.put, List.setIfInBounds_toArray, List.set_cons_zero, List.set_cons_succ])
        refine wpAnyH_ready (rs := [14]) (by kernel_rfl) (by simp) ?_
        refine AllReadyH.cons rfl (fun K hK => ?_) AllReadyH.nil
        refine step_push1 (by rfl) _ _ _ (by rfl) eInt (v := .slice Ar c.length cr) (by rfl) (Hrow.out.alloc _) w.heap.size (nV n) (by rfl) (by rw [World.cell?_of_block rfl]; exact box_cell (Below.refl _ _) 0) (by rfl) (by omega) (by simp; omega) ?_
        intro v' w5 hown hg hat
        obtain ⟨A', c', rfl⟩ := own_shape hown
        have hbel : Below w.heap.size w (w.alloc (.cells #[nV n] 3)).drew := (below_alloc _ _).drew
        have H7 := Lib.hid (RR.pushLast HRR.out hbel Hvk.out Hck.out hown hg hat)
        have HKq := Lib.hid ((HK.out.trans (keepG_below hbel)).trans (keepG_grown (G := G) (Hrow.out.alloc _) (.inr rfl) hg))
        have hng : some G ≠ (Value.slice Ar c.length cr).ownBlock := fun e => by obtain ⟨q, hq⟩ := own_obj Hrow.out e.symm; rw [HG.out] at hq; exact absurd (Obj.cells.inj (Option.some.inj hq)).2.1 (by decide)
        have hGlt := (Array.getElem?_eq_some_iff.1 HG.out).1
        have HG5 := Lib.hid ((hg.block G (by simp; omega) hng).trans ((hbel.block G hGlt).trans HG.out))
        have hgn : some gw ≠ (Value.slice Ar c.length cr).ownBlock := fun e => by obtain ⟨q, hq⟩ := own_obj Hrow.out e.symm; obtain ⟨q2, hq2⟩ := own_obj HRR.out.own (g := gw) rfl; rw [hq2] at hq; exact absurd (Obj.cells.inj (Option.some.inj hq)).2.1 (by decide)
        have HO5 := Lib.hid (show w5.ownsRow B 56 1 (.slice (some ⟨gw, 0, none⟩) out'.length cv) out'.length vs from own_ag HRR.out.own fun g hg' => by cases hg'; exact (hg.block gw (by simp; have := (HRR.out.own.lt gw rfl).2; omega) hgn).trans (hbel.block gw (HRR.out.own.lt gw rfl).2))
        have q5 := cell_of_row w5 G 0 _ _ (0, 0) HG5.out
        have q5 : w5.cell? ⟨G, 0, none⟩ = some (.slice (some ⟨gw, 0, none⟩) out'.length cv) := q5
        have hfz : w5.frozen? ⟨gw, k, none⟩ = false := by obtain ⟨q2, hq2⟩ := own_obj HO5.out (g := gw) rfl; exact frozen_of_row _ _ _ _ _ hq2
        have hcw5 : w5.cell? ⟨gw, k, none⟩ = some (.slice Ar c.length cr) := by rw [HO5.out.cellAt k (by omega)]; exact Hvk.out
        clear hown hg hat hbel hng hgn
        refine hK.out _ _ q5 (fun hHeld => ?_)
        clear hK K
        (try dsimp only [Act.put, List.setIfInBounds_toArray, List.set_cons_zero, List.set_cons_succ])
        refine wpAnyH_take (i := 15) (v := ?_) rfl (by kernel_rfl) (by kernel_rfl) (by kernel_rfl) (fun _ _ _ h => h) (Or.inl ⟨by rfl, ?_⟩) (by assumption) ?_
        rotate_left
        · intro w1 hSw
          (try dsimp only at hSw)
          go_simp
          (try with_reducible rfl)
        (try dsimp only [Act.put, List.setIfInBounds_toArray, List.set_cons_zero, List.set_cons_succ])
        refine wpAnyH_ready (rs := [16]) (by kernel_rfl) (by simp) ?_
        refine AllReadyH.cons rfl (fun K hK => ?_) AllReadyH.nil
        go_simp
        refine hK.out _ _ (by rw [World.cell?_setCell_far _ _ _ _ (fun e => hGgw e.symm)]; exact q5) (fun hHeld => ?_)
        clear hK K
        (try dsimp only [Act.put, List.setIfInBounds_toArray, List.set_cons_zero, List.set_cons_succ])
        refine wpAnyH_done (by kernel_rfl) ?_ _
        have HGA := Lib.hid (show GAt (w5.setCell ⟨gw, k, none⟩ (.slice A' (c.length + 1) c')) B G (pushLast out' n) true most full vars from ⟨_, _, (Below.heap_setCell w5 ⟨gw, k, none⟩ _ G hGgw).trans HG5.out, by rw [HPL.out]; simpa using H7.out⟩)
        have HKz := Lib.hid (HKq.out.trans (keepG_setR (G := G) (k := k) HO5.out (.inl rfl) (.slice A' (c.length + 1) c')))
        clear H7 q5
        go_wp2
        refine bodyPost_ret (results_none rfl _ _ _) rfl ?_
        exact HP.out _ HKz.out HGA.out
    · skip
      go_enter Tryd.func29, Tryd.ntmps29
      go_wp2_with (go_at_call 31; refine (HF.out _ _).mono ?_; rintro e w1 ⟨rfl, rfl⟩)
      refine wp_region_held_drew (S := (fun w' => w'.cell? ⟨G, 0, none⟩ = some (.slice (some ⟨gw, 0, none⟩) out'.length cv))) (by kernel_rfl) g0 (fun hHeld => ?_)
      refine wpAnyH_take (i := 0) (v := ?_) rfl (by kernel_rfl) (by kernel_rfl) (by kernel_rfl) (fun _ _ _ h => h) (Or.inl ⟨by rfl, ?_⟩) (by assumption) ?_
      rotate_left
      · intro w1 hSw
        (try dsimp only at hSw)
        go_simp
        (try with_reducible rfl)
      (try dsimp only [Act.put, List.setIfInBounds_toArray, List.set_cons_zero, List.set_cons_succ])
      refine wpAnyH_take (i := 1) (v := ?_) rfl (by kernel_rfl) (by kernel_rfl) (by kernel_rfl) (fun _ _ _ h => h) (Or.inl ⟨by rfl, ?_⟩) (by assumption) ?_
      rotate_left
      · intro w1 hSw
        (try dsimp only at hSw)
        go_simp
        (try with_reducible rfl)
      (try dsimp only [Act.put, List.setIfInBounds_toArray, List.set_cons_zero, List.set_cons_succ])
      refine wpAnyH_take (i := 2) (v := ?_) rfl (by kernel_rfl) (by kernel_rfl) (by kernel_rfl) (fun _ _ _ h => h) (Or.inl ⟨by rfl, ?_⟩) (by assumption) ?_
      rotate_left
      · intro w1 hSw
        (try dsimp only at hSw)
        go_simp
        (try with_reducible rfl)
      (try dsimp only [Act.put, List.setIfInBounds_toArray, List.set_cons_zero, List.set_cons_succ])
      refine wpAnyH_take (i := 3) (v := ?_) rfl (by kernel_rfl) (by kernel_rfl) (by kernel_rfl) (fun _ _ _ h => h) (Or.inl ⟨by rfl, ?_⟩) (by assumption) ?_
      rotate_left
      · intro w1 hSw
        (try dsimp only at hSw)
        go_simp
        (try with_reducible rfl)
      (try dsimp only [Act.put, List.setIfInBounds_toArray, List.set_cons_zero, List.set_cons_succ])
      refine wpAnyH_take (i := 4) (v := ?_) rfl (by kernel_rfl) (by kernel_rfl) (by kernel_rfl) (fun _ _ _ h => h) (Or.inl ⟨by rfl, ?_⟩) (by assumption) ?_
      rotate_left
      · intro w1 hSw
        (try dsimp only at hSw)
        go_simp
        (try with_reducible rfl)
      (try dsimp only [Act.put, List.setIfInBounds_toArray, List.set_cons_zero, List.set_cons_succ])
      refine wpAnyH_take (i := 5) (v := ?_) rfl (by kernel_rfl) (by kernel_rfl) (by kernel_rfl) (fun _ _ _ h => h) (Or.inl ⟨by rfl, ?_⟩) (by assumption) ?_
      rotate_left
      · intro w1 hSw
        (try dsimp only at hSw)
        go_simp
        (try with_reducible rfl)
      (try dsimp only [Act.put, List.setIfInBounds_toArray, List.set_cons_zero, List.set_cons_succ])
      refine wpAnyH_take (i := 6) (v := ?_) rfl (by kernel_rfl) (by kernel_rfl) (by kernel_rfl) (fun _ _ _ h => h) (Or.inl ⟨by rfl, ?_⟩) (by assumption) ?_
      rotate_left
      · intro w1 hSw
        (try dsimp only at hSw)
        go_simp
        (try with_reducible rfl)
      (try dsimp only [Act.put, List.setIfInBounds_toArray, List.set_cons_zero, List.set_cons_succ])
      refine wpAnyH_take (i := 7) (v := ?_) rfl (by kernel_rfl) (by kernel_rfl) (by kernel_rfl) (fun _ _ _ h => h) (Or.inl ⟨by rfl, ?_⟩) (by assumption) ?_
      rotate_left
      · intro w1 hSw
        (try dsimp only at hSw)
        go_simp
        (try with_reducible rfl)
      (try dsimp only [Act.put, List.setIfInBounds_toArray, List.set_cons_zero, List.set_cons_succ])
      refine wpAnyH_take (i := 8) (v := ?_) rfl (by kernel_rfl) (by kernel_rfl) (by kernel_rfl) (fun _ _ _ h => h) (Or.inl ⟨by rfl, ?_⟩) (by assumption) ?_
      rotate_left
      · intro w1 hSw
        (try dsimp only at hSw)
        go_simp
        (try with_reducible rfl)
      (try dsimp only [Act.put, List.setIfInBounds_toArray, List.set_cons_zero, List.set_cons_succ])
      refine wpAnyH_take (i := 9) (v := ?_) rfl (by kernel_rfl) (by kernel_rfl) (by kernel_rfl) (fun _ _ _ h => h) (Or.inl ⟨by rfl, ?_⟩) (by assumption) ?_
      rotate_left
      · intro w1 hSw
        (try dsimp only at hSw)
        go_simp
        (try with_reducible rfl)
      (try dsimp only [Act.put, List.setIfInBounds_toArray, List.set_cons_zero, List.set_cons_succ])
      refine wpAnyH_take (i := 10) (v := ?_) rfl (by kernel_rfl) (by kernel_rfl) (by kernel_rfl) (fun _ _ _ h => h) (Or.inl ⟨by rfl, ?_⟩) (by assumption) ?_
      rotate_left
      · intro w1 hSw
        (try dsimp only at hSw)
        go_simp
        (try with_reducible rfl)
      (try dsimp only [Act.put, List.setIfInBounds_toArray, List.set_cons_zero, List.set_cons_succ])
      refine wpAnyH_take (i := 12) (v := ?_) rfl (by kernel_rfl) (by kernel_rfl) (by kernel_rfl) (fun _ _ _ h => h) (Or.inl ⟨by rfl, ?_⟩) (by assumption) ?_
      rotate_left
      · intro w1 hSw
        (try dsimp only at hSw)
        go_simp
        (try with_reducible rfl)
      (try dsimp only [Act.put, List.setIfInBounds_toArray, List.set_cons_zero, List.set_cons_succ])
      refine wpAnyH_ready (rs := [11, 13]) (by kernel_rfl) (by simp) ?_
      refine AllReadyH.cons rfl (fun K hK => ?_) (AllReadyH.cons rfl (fun K hK => ?_) AllReadyH.nil)
      · skip
        go_simp
        refine hK.out _ _ g0 (fun hHeld => ?_)
        clear hK K
        (try dsimp only [Act.put, List.setIfInBounds_toArray, List.set_cons_zero, List.set_cons_succ])
        refine wpAnyH_ready (rs := [13]) (by kernel_rfl) (by simp) ?_
        refine AllReadyH.cons rfl (fun K hK => ?_) AllReadyH.nil
        go_simp
        refine hK.out _ _ g0a (fun hHeld => ?_)
        clear hK K
        (try dsimp only [Act.put, List.setIfInBounds_toArray, List.set_cons_zero, List.set_cons_succ])
        refine wpAnyH_ready (rs := [14]) (by kernel_rfl) (by simp) ?_
        refine AllReadyH.cons rfl (fun K hK => ?_) AllReadyH.nil
        refine step_push1 (by rfl) _ _ _ (by rfl) eInt (v := .slice Ar c.length cr) (by rfl) (Hrow.out.alloc _) w.heap.size (nV n) (by rfl) (by rw [World.cell?_of_block rfl]; exact box_cell (Below.refl _ _) 0) (by rfl) (by omega) (by simp; omega) ?_
        intro v' w5 hown hg hat
        obtain ⟨A', c', rfl⟩ := own_shape hown
        have hbel : Below w.heap.size w (w.alloc (.cells #[nV n] 3)).drew := (below_alloc _ _).drew
        have H7 := Lib.hid (RR.pushLast HRR.out hbel Hvk.out Hck.out hown hg hat)
        have HKq := Lib.hid ((HK.out.trans (keepG_below hbel)).trans (keepG_grown (G := G) (Hrow.out.alloc _) (.inr rfl) hg))
        have hng : some G ≠ (Value.slice Ar c.length cr).ownBlock := fun e => by obtain ⟨q, hq⟩ := own_obj Hrow.out e.symm; rw [HG.out] at hq; exact absurd (Obj.cells.inj (Option.some.inj hq)).2.1 (by decide)
        have hGlt := (Array.getElem?_eq_some_iff.1 HG.out).1
        have HG5 := Lib.hid ((hg.block G (by simp; omega) hng).trans ((hbel.block G hGlt).trans HG.out))
        have hgn : some gw ≠ (Value.slice Ar c.length cr).ownBlock := fun e => by obtain ⟨q, hq⟩ := own_obj Hrow.out e.symm; obtain ⟨q2, hq2⟩ := own_obj HRR.out.own (g := gw) rfl; rw [hq2] at hq; exact absurd (Obj.cells.inj (Option.some.inj hq)).2.1 (by decide)
        have HO5 := Lib.hid (show w5.ownsRow B 56 1 (.slice (some ⟨gw, 0, none⟩) out'.length cv) out'.length vs from own_ag HRR.out.own fun g hg' => by cases hg'; exact (hg.block gw (by simp; have := (HRR.out.own.lt gw rfl).2; omega) hgn).trans (hbel.block gw (HRR.out.own.lt gw rfl).2))
        have q5 := cell_of_row w5 G 0 _ _ (0, 0) HG5.out
        have q5 : w5.cell? ⟨G, 0, none⟩ = some (.slice (some ⟨gw, 0, none⟩) out'.length cv) := q5
        have hfz : w5.frozen? ⟨gw, k, none⟩ = false := by obtain ⟨q2, hq2⟩ := own_obj HO5.out (g := gw) rfl; exact frozen_of_row _ _ _ _ _ hq2
        have hcw5 : w5.cell? ⟨gw, k, none⟩ = some (.slice Ar c.length cr) := by rw [HO5.out.cellAt k (by omega)]; exact Hvk.out
        clear hown hg hat hbel hng hgn
        refine hK.out _ _ q5 (fun hHeld => ?_)
        clear hK K
        (try dsimp only [Act.put, List.setIfInBounds_toArray, List.set_cons_zero, List.set_cons_succ])
        refine wpAnyH_take (i := 15) (v := ?_) rfl (by kernel_rfl) (by kernel_rfl) (by kernel_rfl) (fun _ _ _ h => h) (Or.inl ⟨by rfl, ?_⟩) (by assumption) ?_
        rotate_left
        · intro w1 hSw
          (try dsimp only at hSw)
          go_simp
          (try with_reducible rfl)
        (try dsimp only [Act.put, List.setIfInBounds_toArray, List.set_cons_zero, List.set_cons_succ])
        refine wpAnyH_ready (rs := [16]) (by kernel_rfl) (by simp) ?_
        refine AllReadyH.cons rfl (fun K hK => ?_) AllReadyH.nil
        go_simp
        refine hK.out _ _ (by rw [World.cell?_setCell_far _ _ _ _ (fun e => hGgw e.symm)]; exact q5) (fun hHeld => ?_)
        clear hK K
        (try dsimp only [Act.put, List.setIfInBounds_toArray, List.set_cons_zero, List.set_cons_succ])
        refine wpAnyH_done (by kernel_rfl) ?_ _
        have HGA := Lib.hid (show GAt (w5.setCell ⟨gw, k, none⟩ (.slice A' (c.length + 1) c')) B G (pushLast out' n) true most full vars from ⟨_, _, (Below.heap_setCell w5 ⟨gw, k, none⟩ _ G hGgw).trans HG5.out, by rw [HPL.out]; simpa using H7.out⟩)
        have HKz := Lib.hid (HKq.out.trans (keepG_setR (G := G) (k := k) HO5.out (.inl rfl) (.slice A' (c.length + 1) c')))
        clear H7 q5
        go_wp2
        refine bodyPost_ret (results_none rfl _ _ _) rfl ?_
        exact HP.out _ HKz.out HGA.out
      · skip
        go_simp
        refine hK.out _ _ g0a (fun hHeld => ?_)
        clear hK K
        (try dsimp only [Act.put, List.setIfInBounds_toArray, List.set_cons_zero, List.set_cons_succ])
        refine wpAnyH_ready (rs := [11]) (by kernel_rfl) (by simp) ?_
        refine AllReadyH.cons rfl (fun K hK => ?_) AllReadyH.nil
        go_simp
        refine hK.out _ _ g0a (fun hHeld => ?_)
        clear hK K
        (try dsimp only [Act.put, List.setIfInBounds_toArray, List.set_cons_zero, List.set_cons_succ])
        refine wpAnyH_ready (rs := [14]) (by kernel_rfl) (by simp) ?_
        refine AllReadyH.cons rfl (fun K hK => ?_) AllReadyH.nil
        refine step_push1 (by rfl) _ _ _ (by rfl) eInt (v := .slice Ar c.length cr) (by rfl) (Hrow.out.alloc _) w.heap.size (nV n) (by rfl) (by rw [World.cell?_of_block rfl]; exact box_cell (Below.refl _ _) 0) (by rfl) (by omega) (by simp; omega) ?_
        intro v' w5 hown hg hat
        obtain ⟨A', c', rfl⟩ := own_shape hown
        have hbel : Below w.heap.size w (w.alloc (.cells #[nV n] 3)).drew := (below_alloc _ _).drew
        have H7 := Lib.hid (RR.pushLast HRR.out hbel Hvk.out Hck.out hown hg hat)
        have HKq := Lib.hid ((HK.out.trans (keepG_below hbel)).trans (keepG_grown (G := G) (Hrow.out.alloc _) (.inr rfl) hg))
        have hng : some G ≠ (Value.slice Ar c.length cr).ownBlock := fun e => by obtain ⟨q, hq⟩ := own_obj Hrow.out e.symm; rw [HG.out] at hq; exact absurd (Obj.cells.inj (Option.some.inj hq)).2.1 (by decide)
        have hGlt := (Array.getElem?_eq_some_iff.1 HG.out).1
        have HG5 := Lib.hid ((hg.block G (by simp; omega) hng).trans ((hbel.block G hGlt).trans HG.out))
        have hgn : some gw ≠ (Value.slice Ar c.length cr).ownBlock := fun e => by obtain ⟨q, hq⟩ := own_obj Hrow.out e.symm; obtain ⟨q2, hq2⟩ := own_obj HRR.out.own (g := gw) rfl; rw [hq2] at hq; exact absurd (Obj.cells.inj (Option.some.inj hq)).2.1 (by decide)
        have HO5 := Lib.hid (show w5.ownsRow B 56 1 (.slice (some ⟨gw, 0, none⟩) out'.length cv) out'.length vs from own_ag HRR.out.own fun g hg' => by cases hg'; exact (hg.block gw (by simp; have := (HRR.out.own.lt gw rfl).2; omega) hgn).trans (hbel.block gw (HRR.out.own.lt gw rfl).2))
        have q5 := cell_of_row w5 G 0 _ _ (0, 0) HG5.out
        have q5 : w5.cell? ⟨G, 0, none⟩ = some (.slice (some ⟨gw, 0, none⟩) out'.length cv) := q5
        have hfz : w5.frozen? ⟨gw, k, none⟩ = false := by obtain ⟨q2, hq2⟩ := own_obj HO5.out (g := gw) rfl; exact frozen_of_row _ _ _ _ _ hq2
        have hcw5 : w5.cell? ⟨gw, k, none⟩ = some (.slice Ar c.length cr) := by rw [HO5.out.cellAt k (by omega)]; exact Hvk.out
        clear hown hg hat hbel hng hgn
        refine hK.out _ _ q5 (fun hHeld => ?_)
        clear hK K
        (try dsimp only [Act.put, List.setIfInBounds_toArray, List.set_cons_zero, List.set_cons_succ])
        refine wpAnyH_take (i := 15) (v := ?_) rfl (by kernel_rfl) (by kernel_rfl) (by kernel_rfl) (fun _ _ _ h => h) (Or.inl ⟨by rfl, ?_⟩) (by assumption) ?_
        rotate_left
        · intro w1 hSw
          (try dsimp only at hSw)
          go_simp
          (try with_reducible rfl)
        (try dsimp only [Act.put, List.setIfInBounds_toArray, List.set_cons_zero, List.set_cons_succ])
        refine wpAnyH_ready (rs := [16]) (by kernel_rfl) (by simp) ?_
        refine AllReadyH.cons rfl (fun K hK => ?_) AllReadyH.nil
        go_simp
        refine hK.out _ _ (by rw [World.cell?_setCell_far _ _ _ _ (fun e => hGgw e.symm)]; exact q5) (fun hHeld => ?_)
        clear hK K
        (try dsimp only [Act.put, List.setIfInBounds_toArray, List.set_cons_zero, List.set_cons_succ])
        refine wpAnyH_done (by kernel_rfl) ?_ _
        have HGA := Lib.hid (show GAt (w5.setCell ⟨gw, k, none⟩ (.slice A' (c.length + 1) c')) B G (pushLast out' n) true most full vars from ⟨_, _, (Below.heap_setCell w5 ⟨gw, k, none⟩ _ G hGgw).trans HG5.out, by rw [HPL.out]; simpa using H7.out⟩)
        have HKz := Lib.hid (HKq.out.trans (keepG_setR (G := G) (k := k) HO5.out (.inl rfl) (.slice A' (c.length + 1) c')))
        clear H7 q5
        go_wp2
        refine bodyPost_ret (results_none rfl _ _ _) rfl ?_
        exact HP.out _ HKz.out HGA.out
  | false =>
    have hm : ¬ (most ≤ (out.length : Int)) := fun h => hfull ⟨rfl, h⟩
    have Hout := Lib.hid (show out' = out ++ [[]] by rw [hout]; rfl)
    have HG := Lib.hid hG0
    have HR := Lib.hid hR0
    clear hout hfull hG0 hR0 hr
    go_enter Tryd.func29, Tryd.ntmps29
    go_wp2
    go_quiet (fail)
    obtain ⟨w1, hw1⟩ : ∃ w1, w1 = w.drewN nq := ⟨_, rfl⟩
    have hb1 : Below w.heap.size w w1 := by rw [hw1]; exact below_drewN (Below.refl _ _) _
    have hBw : B ≤ w1.heap.size := Nat.le_trans hB hb1.size
    have HG1 := Lib.hid ((hb1.block G (Array.getElem?_eq_some_iff.1 HG.out).1).trans HG.out)
    have HR1 := Lib.hid (HR.out.up hb1)
    have HK1 := Lib.hid (keepG_below (G := G) (B := B) hb1)
    rw [← hw1]
    clear hw1 hb1 HG HR g0 g1 g2 g3 g4 f0 f1 hB
    obtain ⟨g0, g1, g2, g3, g4, f0, f1⟩ := GAt.cells HG1.out
    go_upto_region 4 with (at_builtin; refine wpList_push rfl _ _ _ rfl eRow (v := .slice A out.length cv) rfl (HR1.out.own.alloc _) w1.heap.size (.slice none 0 0) rfl (by simp [go_sem]) rfl (by omega) (by simp; omega) ?_)
    intro v' w5 hown hg hat
    obtain ⟨A', c', rfl⟩ := own_shape hown
    have hbel : Below w1.heap.size w1 (w1.alloc (.cells #[.slice none 0 0] 56)) := below_alloc _ _
    have H5 := Lib.hid (RR.pushNil HR1.out hbel hown hg)
    have HK5 := Lib.hid ((HK1.out.trans (keepG_below hbel)).trans (keepG_grown (G := G) (HR1.out.own.alloc _) (.inl rfl) hg))
    have hng : some G ≠ (Value.slice A out.length cv).ownBlock := fun e => by obtain ⟨q, hq⟩ := own_obj HR1.out.own e.symm; rw [HG1.out] at hq; exact absurd (Obj.cells.inj (Option.some.inj hq)).2.1 (by decide)
    have hGlt := (Array.getElem?_eq_some_iff.1 HG1.out).1
    have HG5 := Lib.hid ((hg.block G (by simp; omega) hng).trans ((hbel.block G hGlt).trans HG1.out))
    clear g0 g1 g2 g3 g4 f0 f1 hng hg hat hown hbel
    obtain ⟨g0, g1, g2, g3, g4, f0, f1⟩ := GAt.cells HG5.out
    have hG7 := heap_setCell_same _ G 1 _ _ (.bool true) (heap_setCell_same w5 G 0 _ _ (.slice A' (out.length + 1) c') HG5.out)
    have HK7 := Lib.hid ((HK5.out.trans (keepG_set (k := 0) (.slice A' (out.length + 1) c'))).trans (keepG_set (k := 1) (.bool true)))
    have HR7 := Lib.hid ((H5.out.setCell (k := 0) HG5.out not_rowT_G (.slice A' (out.length + 1) c')).setCell (k := 1) (heap_setCell_same w5 G 0 _ _ (.slice A' (out.length + 1) c') HG5.out) not_rowT_G (.bool true))
    have HG7 := Lib.hid hG7
    clear hG7 H5 HK5 HR1 HG1 HK1
    go_upto_region 4 with fail
    obtain ⟨w7, hw7⟩ : ∃ w7, w7 = ((w5.setCell ⟨G, 0, none⟩ (.slice A' (out.length + 1) c')).setCell ⟨G, 1, none⟩ (.bool true)) := ⟨_, rfl⟩
    rw [← hw7] at HG7 HR7 HK7 ⊢
    have hol : out.length + 1 = out'.length := by rw [Hout.out]; simp
    rw [← Hout.out] at HR7
    rw [hol] at HG7 HR7
    have HG := Lib.hid (show w7.heap[G]? = some (.cells #[.slice A' out'.length c', .bool true, .int .i64 most, .int .i64 full, .int .i64 vars] 68 (0, 0)) from HG7.out)
    have HR := HR7
    have HK := HK7
    rw [hol]
    have HB := Lib.hid (Nat.le_trans hBw (show w1.heap.size ≤ w1.heap.size from Nat.le_refl _))
    clear hol hw7 HG7 HR7 HK7 HG5 g0 g1 g2 g3 g4 f0 f1 hm hl
    obtain ⟨g0, g1, g2, g3, g4, f0, f1⟩ := GAt.cells HG.out
    generalize (Value.slice A out.length cv) = uq
    obtain ⟨vz, hvz⟩ : ∃ vz, vs ++ [.slice none 0 0] = vz := ⟨_, rfl⟩
    rw [hvz] at HR
    clear hvz
    by_cases hz : n = 0
    · subst hz
      have HP := Lib.hid (H0.out rfl)
      have hR1 := HR.out
      have hG1 := HG.out
      have HGA := Lib.hid (show GAt (w7.setCell ⟨G, 1, none⟩ (.bool false)) B G out' false most full vars from ⟨_, _, heap_setCell_same w7 G 1 _ _ _ hG1, hR1.setCell hG1 not_rowT_G _⟩)
      have HKp := Lib.hid (HK.out.trans (keepG_set (k := 1) (.bool false)))
      clear hR1 hG1 HR HG HK H1 H2 H0 hwn hn
      go_wp2_with (go_at_call 31; refine (HF.out _ _).mono ?_; rintro e w9 ⟨rfl, rfl⟩)
      refine bodyPost_ret (results_none rfl _ _ _) rfl ?_
      exact HP.out _ HKp.out HGA.out
    have hz2 : (n == 0) = false := by simp [hz]
    by_cases hb : 0 ≤ vars ∧ (vars < n ∨ vars < -n)
    · have HP := Lib.hid (H1.out hz hb)
      obtain ⟨hv, hb⟩ := hb
      clear H0 H1 H2 HR HG
      rcases Int.lt_or_gt_of_ne hz with hs | hs
      · have hmx : n < -n := by omega
        have hgt : vars < -n := by omega
        clear hb hn hz
        go_wp2_with (go_at_call 31; refine (HF.out _ _).mono ?_; rintro e w9 ⟨rfl, rfl⟩)
        exact ⟨rfl, HP.out _ HK.out⟩
      · have hmx : ¬ n < -n := by omega
        have hgt : vars < n := by omega
        clear hb hn hz
        go_wp2_with (go_at_call 31; refine (HF.out _ _).mono ?_; rintro e w9 ⟨rfl, rfl⟩)
        exact ⟨rfl, HP.out _ HK.out⟩
    have HP := Lib.hid (H2.out hz hb)
    obtain ⟨k, hk⟩ : ∃ k, k + 1 = out'.length := ⟨out'.length - 1, by have := List.length_pos_iff.2 hne; omega⟩
    have hkl : k < out'.length := by omega
    obtain ⟨gw, cw, hgw⟩ : ∃ gw cw, Value.slice A' out'.length c' = .slice (some ⟨gw, 0, none⟩) out'.length cw := by obtain ⟨g, c2, e, _⟩ := own_block HR.out.own (by omega); exact ⟨g, c2, e⟩
    simp only [Value.slice.injEq, true_and] at hgw
    obtain ⟨rfl, rfl⟩ := hgw
    have HRR := HR
    obtain ⟨u, hu⟩ : ∃ u, vz[k]? = some u := ⟨_, List.getElem?_eq_getElem (by rw [HR.out.len]; exact hkl)⟩
    obtain ⟨c, hc⟩ : ∃ c, out'[k]? = some c := ⟨_, List.getElem?_eq_getElem hkl⟩
    have hrow := HR.out.row k u c hu hc
    obtain ⟨Ar, cr, rfl⟩ := own_shape hrow
    have Hrow := Lib.hid hrow
    have Hvk := Lib.hid hu
    have Hck := Lib.hid hc
    have hcl : c.length ≤ 900000000000 := hr' c (List.mem_of_getElem? hc)
    have HPL := Lib.hid (show pushLast out' n = out'.set k (c ++ [n]) from pushLast_set hc hk)
    have d0 : w7.cell? ⟨gw, k, none⟩ = some (.slice Ar c.length cr) := by rw [HR.out.own.cellAt k (by omega)]; exact hu
    have hgwl := (HR.out.own.lt gw rfl).2
    have d1 : ((w7.alloc (.cells #[nV n] 3)).drew).cell? ⟨gw, k, none⟩ = some (.slice Ar c.length cr) := (World.cell?_of_block (a := ⟨gw, k, none⟩) (Below.heap_alloc w7 _ gw hgwl)).trans d0
    have hGl := (Array.getElem?_eq_some_iff.1 HG.out).1
    have g0a : ((w7.alloc (.cells #[nV n] 3)).drew).cell? ⟨G, 0, none⟩ = some (.slice (some ⟨gw, 0, none⟩) out'.length c') := (World.cell?_of_block (a := ⟨G, 0, none⟩) (Below.heap_alloc w7 _ G hGl)).trans g0
    have hGgw : G ≠ gw := fun e => by subst e; obtain ⟨q2, hq2⟩ := own_obj HR.out.own (g := G) rfl; rw [HG.out] at hq2; exact absurd (Obj.cells.inj (Option.some.inj hq2)).2.1 (by decide)
    have hws : IntKind.i64.wrap ((out'.length : Int) - 1) = (k : Int) := by rw [IntKind.wrap_i64]; omega
    have hk0 : (0 : Int) ≤ (k : Int) := by omega
    have hks : (k : Int) < (out'.length : Int) := by omega
    have hBW : B ≤ w7.heap.size := Nat.le_trans hB0.out HK.out.size
    clear hrow hu hc H0 H1 H2 hne hr' hl' hgwl
    have hways : vars < 0 ∨ (0 ≤ vars ∧ n < -n ∧ ¬ vars < -n) ∨ (0 ≤ vars ∧ ¬ n < -n ∧ ¬ vars < n) := by omega
    clear hb hn
    rcases hways with hv | ⟨hv, hmx, hgt⟩ | ⟨hv, hmx, hgt⟩
    · skip
      go_wp2_with (go_at_call 31; refine (HF.out _ _).mono ?_; rintro e w9 ⟨rfl, rfl⟩)
      refine wp_region_held_drew (S := (fun w' => w'.cell? ⟨G, 0, none⟩ = some (.slice (some ⟨gw, 0, none⟩) out'.length c'))) (by kernel_rfl) g0 (fun hHeld => ?_)
      refine wpAnyH_take (i := 0) (v := ?_) rfl (by kernel_rfl) (by kernel_rfl) (by kernel_rfl) (fun _ _ _ h => h) (Or.inl ⟨by rfl, ?_⟩) (by assumption) ?_
      rotate_left
      · intro w1 hSw
        (try dsimp only at hSw)
        go_simp
        (try with_reducible rfl)
      (try dsimp only [Act.put, List.setIfInBounds_toArray, List.set_cons_zero, List.set_cons_succ])
      refine wpAnyH_take (i := 1) (v := ?_) rfl (by kernel_rfl) (by kernel_rfl) (by kernel_rfl) (fun _ _ _ h => h) (Or.inl ⟨by rfl, ?_⟩) (by assumption) ?_
      rotate_left
      · intro w1 hSw
        (try dsimp only at hSw)
        go_simp
        (try with_reducible rfl)
      (try dsimp only [Act.put, List.setIfInBounds_toArray, List.set_cons_zero, List.set_cons_succ])
      refine wpAnyH_take (i := 2) (v := ?_) rfl (by kernel_rfl) (by kernel_rfl) (by kernel_rfl) (fun _ _ _ h => h) (Or.inl ⟨by rfl, ?_⟩) (by assumption) ?_
      rotate_left
      · intro w1 hSw
        (try dsimp only at hSw)
        go_simp
        (try with_reducible rfl)
      (try dsimp only [Act.put, List.setIfInBounds_toArray, List.set_cons_zero, List.set_cons_succ])
      refine wpAnyH_take (i := 3) (v := ?_) rfl (by kernel_rfl) (by kernel_rfl) (by kernel_rfl) (fun _ _ _ h => h) (Or.inl ⟨by rfl, ?_⟩) (by assumption) ?_
      rotate_left
      · intro w1 hSw
        (try dsimp only at hSw)
        go_simp
        (try with_reducible rfl)
      (try dsimp only [Act.put, List.setIfInBounds_toArray, List.set_cons_zero, List.set_cons_succ])
      refine wpAnyH_take (i := 4) (v := ?_) rfl (by kernel_rfl) (by kernel_rfl) (by kernel_rfl) (fun _ _ _ h => h) (Or.inl ⟨by rfl, ?_⟩) (by assumption) ?_
      rotate_left
      · intro w1 hSw
        (try dsimp only at hSw)
        go_simp
        (try with_reducible rfl)
      (try dsimp only [Act.put, List.setIfInBounds_toArray, List.set_cons_zero, List.set_cons_succ])
      refine wpAnyH_take (i := 5) (v := ?_) rfl (by kernel_rfl) (by kernel_rfl) (by kernel_rfl) (fun _ _ _ h => h) (Or.inl ⟨by rfl, ?_⟩) (by assumption) ?_
      rotate_left
      · intro w1 hSw
        (try dsimp only at hSw)
        go_simp
        (try with_reducible rfl)
      (try dsimp only [Act.put, List.setIfInBounds_toArray, List.set_cons_zero, List.set_cons_succ])
      refine wpAnyH_take (i := 6) (v := ?_) rfl (by kernel_rfl) (by kernel_rfl) (by kernel_rfl) (fun _ _ _ h => h) (Or.inl ⟨by rfl, ?_⟩) (by assumption) ?_
      rotate_left
      · intro w1 hSw
        (try dsimp only at hSw)
        go_simp
        (try with_reducible rfl)
      (try dsimp only [Act.put, List.setIfInBounds_toArray, List.set_cons_zero, List.set_cons_succ])
      refine wpAnyH_take (i := 7) (v := ?_) rfl (by kernel_rfl) (by kernel_rfl) (by kernel_rfl) (fun _ _ _ h => h) (Or.inl ⟨by rfl, ?_⟩) (by assumption) ?_
      rotate_left
      · intro w1 hSw
        (try dsimp only at hSw)
        go_simp
        (try with_reducible rfl)
      (try dsimp only [Act.put, List.setIfInBounds_toArray, List.set_cons_zero, List.set_cons_succ])
      refine wpAnyH_take (i := 8) (v := ?_) rfl (by kernel_rfl) (by kernel_rfl) (by kernel_rfl) (fun _ _ _ h => h) (Or.inl ⟨by rfl, ?_⟩) (by assumption) ?_
      rotate_left
      · intro w1 hSw
        (try dsimp only at hSw)
        go_simp
        (try with_reducible rfl)
      (try dsimp only [Act.put, List.setIfInBounds_toArray, List.set_cons_zero, List.set_cons_succ])
      refine wpAnyH_take (i := 9) (v := ?_) rfl (by kernel_rfl) (by kernel_rfl) (by kernel_rfl) (fun _ _ _ h => h) (Or.inl ⟨by rfl, ?_⟩) (by assumption) ?_
      rotate_left
      · intro w1 hSw
        (try dsimp only at hSw)
        go_simp
        (try with_reducible rfl)
      (try dsimp only [Act.put, List.setIfInBounds_toArray, List.set_cons_zero, List.set_cons_succ])
      refine wpAnyH_take (i := 10) (v := ?_) rfl (by kernel_rfl) (by kernel_rfl) (by kernel_rfl) (fun _ _ _ h => h) (Or.inl ⟨by rfl, ?_⟩) (by assumption) ?_
      rotate_left
      · intro w1 hSw
        (try dsimp only at hSw)
        go_simp
        (try with_reducible rfl)
      (try dsimp only [Act.put, List.setIfInBounds_toArray, List.set_cons_zero, List.set_cons_succ])
      refine wpAnyH_take (i := 12) (v := ?_) rfl (by kernel_rfl) (by kernel_rfl) (by kernel_rfl) (fun _ _ _ h => h) (Or.inl ⟨by rfl, ?_⟩) (by assumption) ?_
      rotate_left
      · intro w1 hSw
        (try dsimp only at hSw)
        go_simp
        (try with_reducible rfl)
      (try dsimp only [Act.put, List.setIfInBounds_toArray, List.set_cons_zero, List.set_cons_succ])
      refine wpAnyH_ready (rs := [11, 13]) (by kernel_rfl) (by simp) ?_
      refine AllReadyH.cons rfl (fun K hK => ?_) (AllReadyH.cons rfl (fun K hK => ?_) AllReadyH.nil)
      · skip
        go_simp
        refine hK.out _ _ g0 (fun hHeld => ?_)
        clear hK K
        (try dsimp only [Act.put, List.setIfInBounds_toArray, List.set_cons_zero, List.set_cons_succ])
        refine wpAnyH_ready (rs := [13]) (by kernel_rfl) (by simp) ?_
        refine AllReadyH.cons rfl (fun K hK => ?_) AllReadyH.nil
        go_simp
        refine hK.out _ _ g0a (fun hHeld => ?_)
        clear hK K
        (try dsimp only [Act.put, List.setIfInBounds_toArray, List.set_cons_zero, List.set_cons_succ])
        refine wpAnyH_ready (rs := [14]) (by kernel_rfl) (by simp) ?_
        refine AllReadyH.cons rfl (fun K hK => ?_) AllReadyH.nil
        refine step_push1 (by rfl) _ _ _ (by rfl) eInt (v := .slice Ar c.length cr) (by rfl) (Hrow.out.alloc _) w7.heap.size (nV n) (by rfl) (by rw [World.cell?_of_block rfl]; exact box_cell (Below.refl _ _) 0) (by rfl) (by omega) (by simp; omega) ?_
        intro v' w5 hown hg hat
        obtain ⟨Aq, cq, rfl⟩ := own_shape hown
        have hbel : Below w7.heap.size w7 (w7.alloc (.cells #[nV n] 3)).drew := (below_alloc _ _).drew
        have H7 := Lib.hid (RR.pushLast HRR.out hbel Hvk.out Hck.out hown hg hat)
        have HKq := Lib.hid ((HK.out.trans (keepG_below hbel)).trans (keepG_grown (G := G) (Hrow.out.alloc _) (.inr rfl) hg))
        have hng : some G ≠ (Value.slice Ar c.length cr).ownBlock := fun e => by obtain ⟨q, hq⟩ := own_obj Hrow.out e.symm; rw [HG.out] at hq; exact absurd (Obj.cells.inj (Option.some.inj hq)).2.1 (by decide)
        have hGlt := (Array.getElem?_eq_some_iff.1 HG.out).1
        have HG5 := Lib.hid ((hg.block G (by simp; omega) hng).trans ((hbel.block G hGlt).trans HG.out))
        have hgn : some gw ≠ (Value.slice Ar c.length cr).ownBlock := fun e => by obtain ⟨q, hq⟩ := own_obj Hrow.out e.symm; obtain ⟨q2, hq2⟩ := own_obj HRR.out.own (g := gw) rfl; rw [hq2] at hq; exact absurd (Obj.cells.inj (Option.some.inj hq)).2.1 (by decide)
        have HO5 := Lib.hid (show w5.ownsRow B 56 1 (.slice (some ⟨gw, 0, none⟩) out'.length c') out'.length vz from own_ag HRR.out.own fun g hg' => by cases hg'; exact (hg.block gw (by simp; have := (HRR.out.own.lt gw rfl).2; omega) hgn).trans (hbel.block gw (HRR.out.own.lt gw rfl).2))
        have q5 := cell_of_row w5 G 0 _ _ (0, 0) HG5.out
        have q5 : w5.cell? ⟨G, 0, none⟩ = some (.slice (some ⟨gw, 0, none⟩) out'.length c') := q5
        have hfz : w5.frozen? ⟨gw, k, none⟩ = false := by obtain ⟨q2, hq2⟩ := own_obj HO5.out (g := gw) rfl; exact frozen_of_row _ _ _ _ _ hq2
        have hcw5 : w5.cell? ⟨gw, k, none⟩ = some (.slice Ar c.length cr) := by rw [HO5.out.cellAt k (by omega)]; exact Hvk.out
        clear hown hg hat hbel hng hgn
        refine hK.out _ _ q5 (fun hHeld => ?_)
        clear hK K
        (try dsimp only [Act.put, List.setIfInBounds_toArray, List.set_cons_zero, List.set_cons_succ])
        refine wpAnyH_take (i := 15) (v := ?_) rfl (by kernel_rfl) (by kernel_rfl) (by kernel_rfl) (fun _ _ _ h => h) (Or.inl ⟨by rfl, ?_⟩) (by assumption) ?_
        rotate_left
        · intro w1 hSw
          (try dsimp only at hSw)
          go_simp
          (try with_reducible rfl)
        (try dsimp only [Act.put, List.setIfInBounds_toArray, List.set_cons_zero, List.set_cons_succ])
        refine wpAnyH_ready (rs := [16]) (by kernel_rfl) (by simp) ?_
        refine AllReadyH.cons rfl (fun K hK => ?_) AllReadyH.nil
        go_simp
        refine hK.out _ _ (by rw [World.cell?_setCell_far _ _ _ _ (fun e => hGgw e.symm)]; exact q5) (fun hHeld => ?_)
        clear hK K
        (try dsimp only [Act.put, List.setIfInBounds_toArray, List.set_cons_zero, List.set_cons_succ])
        refine wpAnyH_done (by kernel_rfl) ?_ _
        have HGA := Lib.hid (show GAt (w5.setCell ⟨gw, k, none⟩ (.slice Aq (c.length + 1) cq)) B G (pushLast out' n) true most full vars from ⟨_, _, (Below.heap_setCell w5 ⟨gw, k, none⟩ _ G hGgw).trans HG5.out, by rw [HPL.out]; simpa using H7.out⟩)
        have HKz := Lib.hid (HKq.out.trans (keepG_setR (G := G) (k := k) HO5.out (.inl rfl) (.slice Aq (c.length + 1) cq)))
        clear H7 q5
        go_wp2
        refine bodyPost_ret (results_none rfl _ _ _) rfl ?_
        exact HP.out _ HKz.out HGA.out
      · skip
        go_simp
        refine hK.out _ _ g0a (fun hHeld => ?_)
        clear hK K
        (try dsimp only [Act.put, List.setIfInBounds_toArray, List.set_cons_zero, List.set_cons_succ])
        refine wpAnyH_ready (rs := [11]) (by kernel_rfl) (by simp) ?_
        refine AllReadyH.cons rfl (fun K hK => ?_) AllReadyH.nil
        go_simp
        refine hK.out _ _ g0a (fun hHeld => ?_)
        clear hK K
        (try dsimp only [Act.put, List.setIfInBounds_toArray, List.set_cons_zero, List.set_cons_succ])
        refine wpAnyH_ready (rs := [14]) (by kernel_rfl) (by simp) ?_
        refine AllReadyH.cons rfl (fun K hK => ?_) AllReadyH.nil
        refine step_push1 (by rfl) _ _ _ (by rfl) eInt (v := .slice Ar c.length cr) (by rfl) (Hrow.out.alloc _) w7.heap.size (nV n) (by rfl) (by rw [World.cell?_of_block rfl]; exact box_cell (Below.refl _ _) 0) (by rfl) (by omega) (by simp; omega) ?_
        intro v' w5 hown hg hat
        obtain ⟨Aq, cq, rfl⟩ := own_shape hown
        have hbel : Below w7.heap.size w7 (w7.alloc (.cells #[nV n] 3)).drew := (below_alloc _ _).drew
        have H7 := Lib.hid (RR.pushLast HRR.out hbel Hvk.out Hck.out hown hg hat)
        have HKq := Lib.hid ((HK.out.trans (keepG_below hbel)).trans (keepG_grown (G := G) (Hrow.out.alloc _) (.inr rfl) hg))
        have hng : some G ≠ (Value.slice Ar c.length cr).ownBlock := fun e => by obtain ⟨q, hq⟩ := own_obj Hrow.out e.symm; rw [HG.out] at hq; exact absurd (Obj.cells.inj (Option.some.inj hq)).2.1 (by decide)
        have hGlt := (Array.getElem?_eq_some_iff.1 HG.out).1
        have HG5 := Lib.hid ((hg.block G (by simp; omega) hng).trans ((hbel.block G hGlt).trans HG.out))
        have hgn : some gw ≠ (Value.slice Ar c.length cr).ownBlock := fun e => by obtain ⟨q, hq⟩ := own_obj Hrow.out e.symm; obtain ⟨q2, hq2⟩ := own_obj HRR.out.own (g := gw) rfl; rw [hq2] at hq; exact absurd (Obj.cells.inj (Option.some.inj hq)).2.1 (by decide)
        have HO5 := Lib.hid (show w5.ownsRow B 56 1 (.slice (some ⟨gw, 0, none⟩) out'.length c') out'.length vz from own_ag HRR.out.own fun g hg' => by cases hg'; exact (hg.block gw (by simp; have := (HRR.out.own.lt gw rfl).2; omega) hgn).trans (hbel.block gw (HRR.out.own.lt gw rfl).2))
        have q5 := cell_of_row w5 G 0 _ _ (0, 0) HG5.out
        have q5 : w5.cell? ⟨G, 0, none⟩ = some (.slice (some ⟨gw, 0, none⟩) out'.length c') := q5
        have hfz : w5.frozen? ⟨gw, k, none⟩ = false := by obtain ⟨q2, hq2⟩ := own_obj HO5.out (g := gw) rfl; exact frozen_of_row _ _ _ _ _ hq2
        have hcw5 : w5.cell? ⟨gw, k, none⟩ = some (.slice Ar c.length cr) := by rw [HO5.out.cellAt k (by omega)]; exact Hvk.out
        clear hown hg hat hbel hng hgn
        refine hK.out _ _ q5 (fun hHeld => ?_)
        clear hK K
        (try dsimp only [Act.put, List.setIfInBounds_toArray, List.set_cons_zero, List.set_cons_succ])
        refine wpAnyH_take (i := 15) (v := ?_) rfl (by kernel_rfl) (by kernel_rfl) (by kernel_rfl) (fun _ _ _ h => h) (Or.inl ⟨by rfl, ?_⟩) (by assumption) ?_
        rotate_left
        · intro w1 hSw
          (try dsimp only at hSw)
          go_simp
          (try with_reducible rfl)
        (try dsimp only [Act.put, List.setIfInBounds_toArray, List.set_cons_zero, List.set_cons_succ])
        refine wpAnyH_ready (rs := [16]) (by kernel_rfl) (by simp) ?_
        refine AllReadyH.cons rfl (fun K hK => ?_) AllReadyH.nil
        go_simp
        refine hK.out _ _ (by rw [World.cell?_setCell_far _ _ _ _ (fun e => hGgw e.symm)]; exact q5) (fun hHeld => ?_)
        clear hK K
        (try dsimp only [Act.put, List.setIfInBounds_toArray, List.set_cons_zero, List.set_cons_succ])
        refine wpAnyH_done (by kernel_rfl) ?_ _
        have HGA := Lib.hid (show GAt (w5.setCell ⟨gw, k, none⟩ (.slice Aq (c.length + 1) cq)) B G (pushLast out' n) true most full vars from ⟨_, _, (Below.heap_setCell w5 ⟨gw, k, none⟩ _ G hGgw).trans HG5.out, by rw [HPL.out]; simpa using H7.out⟩)
        have HKz := Lib.hid (HKq.out.trans (keepG_setR (G := G) (k := k) HO5.out (.inl rfl) (.slice Aq (c.length + 1) cq)))
        clear H7 q5
        go_wp2
        refine bodyPost_ret (results_none rfl _ _ _) rfl ?_
        exact HP.out _ HKz.out HGA.out
    · skip
      go_wp2_with (go_at_call 31; refine (HF.out _ _).mono ?_; rintro e w9 ⟨rfl, rfl⟩)
      refine wp_region_held_drew (S := (fun w' => w'.cell? ⟨G, 0, none⟩ = some (.slice (some ⟨gw, 0, none⟩) out'.length c'))) (by kernel_rfl) g0 (fun hHeld => ?_)
      refine wpAnyH_take (i := 0) (v := ?_) rfl (by kernel_rfl) (by kernel_rfl) (by kernel_rfl) (fun _ _ _ h => h) (Or.inl ⟨by rfl, ?_⟩) (by assumption) ?_
      rotate_left
      · intro w1 hSw
        (try dsimp only at hSw)
        go_simp
        (try with_reducible rfl)
      (try dsimp only [Act.put, List.setIfInBounds_toArray, List.set_cons_zero, List.set_cons_succ])
      refine wpAnyH_take (i := 1) (v := ?_) rfl (by kernel_rfl) (by kernel_rfl) (by kernel_rfl) (fun _ _ _ h => h) (Or.inl ⟨by rfl, ?_⟩) (by assumption) ?_
      rotate_left
      · intro w1 hSw
        (try dsimp only at hSw)
        go_simp
        (try with_reducible rfl)
      (try dsimp only [Act.put, List.setIfInBounds_toArray, List.set_cons_zero, List.set_cons_succ])
      refine wpAnyH_take (i := 2) (v := ?_) rfl (by kernel_rfl) (by kernel_rfl) (by kernel_rfl) (fun _ _ _ h => h) (Or.inl ⟨by rfl, ?_⟩) (by assumption) ?_
      rotate_left
      · intro w1 hSw
        (try dsimp only at hSw)
        go_simp
        (try with_reducible rfl)
      (try dsimp only [Act.put, List.setIfInBounds_toArray, List.set_cons_zero, List.set_cons_succ])
      refine wpAnyH_take (i := 3) (v := ?_) rfl (by kernel_rfl) (by kernel_rfl) (by kernel_rfl) (fun _ _ _ h => h) (Or.inl ⟨by rfl, ?_⟩) (by assumption) ?_
      rotate_left
      · intro w1 hSw
        (try dsimp only at hSw)
        go_simp
        (try with_reducible rfl)
      (try dsimp only [Act.put, List.setIfInBounds_toArray, List.set_cons_zero, List.set_cons_succ])
      refine wpAnyH_take (i := 4) (v := ?_) rfl (by kernel_rfl) (by kernel_rfl) (by kernel_rfl) (fun _ _ _ h => h) (Or.inl ⟨by rfl, ?_⟩) (by assumption) ?_
      rotate_left
      · intro w1 hSw
        (try dsimp only at hSw)
        go_simp
        (try with_reducible rfl)
      (try dsimp only [Act.put, List.setIfInBounds_toArray, List.set_cons_zero, List.set_cons_succ])
      refine wpAnyH_take (i := 5) (v := ?_) rfl (by kernel_rfl) (by kernel_rfl) (by kernel_rfl) (fun _ _ _ h => h) (Or.inl ⟨by rfl, ?_⟩) (by assumption) ?_
      rotate_left
      · intro w1 hSw
        (try dsimp only at hSw)
        go_simp
        (try with_reducible rfl)
      (try dsimp only [Act.put, List.setIfInBounds_toArray, List.set_cons_zero, List.set_cons_succ])
      refine wpAnyH_take (i := 6) (v := ?_) rfl (by kernel_rfl) (by kernel_rfl) (by kernel_rfl) (fun _ _ _ h => h) (Or.inl ⟨by rfl, ?_⟩) (by assumption) ?_
      rotate_left
      · intro w1 hSw
        (try dsimp only at hSw)
        go_simp
        (try with_reducible rfl)
      (try dsimp only [Act.put, List.setIfInBounds_toArray, List.set_cons_zero, List.set_cons_succ])
      refine wpAnyH_take (i := 7) (v := ?_) rfl (by kernel_rfl) (by kernel_rfl) (by kernel_rfl) (fun _ _ _ h => h) (Or.inl ⟨by rfl, ?_⟩) (by assumption) ?_
      rotate_left
      · intro w1 hSw
        (try dsimp only at hSw)
        go_simp
        (try with_reducible rfl)
      (try dsimp only [Act.put, List.setIfInBounds_toArray, List.set_cons_zero, List.set_cons_succ])
      refine wpAnyH_take (i := 8) (v := ?_) rfl (by kernel_rfl) (by kernel_rfl) (by kernel_rfl) (fun _ _ _ h => h) (Or.inl ⟨by rfl, ?_⟩) (by assumption) ?_
      rotate_left
      · intro w1 hSw
        (try dsimp only at hSw)
        go_simp
        (try with_reducible rfl)
      (try dsimp only [Act.put, List.setIfInBounds_toArray, List.set_cons_zero, List.set_cons_succ])
      refine wpAnyH_take (i := 9) (v := ?_) rfl (by kernel_rfl) (by kernel_rfl) (by kernel_rfl) (fun _ _ _ h => h) (Or.inl ⟨by rfl, ?_⟩) (by assumption) ?_
      rotate_left
      · intro w1 hSw
        (try dsimp only at hSw)
        go_simp
        (try with_reducible rfl)
      (try dsimp only [Act.put, List.setIfInBounds_toArray, List.set_cons_zero, List.set_cons_succ])
      refine wpAnyH_take (i := 10) (v := ?_) rfl (by kernel_rfl) (by kernel_rfl) (by kernel_rfl) (fun _ _ _ h => h) (Or.inl ⟨by rfl, ?_⟩) (by assumption) ?_
      rotate_left
      · intro w1 hSw
        (try dsimp only at hSw)
        go_simp
        (try with_reducible rfl)
      (try dsimp only [Act.put, List.setIfInBounds_toArray, List.set_cons_zero, List.set_cons_succ])
      refine wpAnyH_take (i := 12) (v := ?_) rfl (by kernel_rfl) (by kernel_rfl) (by kernel_rfl) (fun _ _ _ h => h) (Or.inl ⟨by rfl, ?_⟩) (by assumption) ?_
      rotate_left
      · intro w1 hSw
        (try dsimp only at hSw)
        go_simp
        (try with_reducible rfl)
      (try dsimp only [Act.put, List.setIfInBounds_toArray, List.set_cons_zero, List.set_cons_succ])
      refine wpAnyH_ready (rs := [11, 13]) (by kernel_rfl) (by simp) ?_
      refine AllReadyH.cons rfl (fun K hK => ?_) (AllReadyH.cons rfl (fun K hK => ?_) AllReadyH.nil)
      · skip
        go_simp
        refine hK.out _ _ g0 (fun hHeld => ?_)
        clear hK K
        (try dsimp only [Act.put, List.setIfInBounds_toArray, List.set_cons_zero, List.set_cons_succ])
        refine wpAnyH_ready (rs := [13]) (by kernel_rfl) (by simp) ?_
        refine AllReadyH.cons rfl (fun K hK => ?_) AllReadyH.nil
        go_simp
        refine hK.out _ _ g0a (fun hHeld => ?_)
        clear hK K
        (try dsimp only [Act.put, List.setIfInBounds_toArray, List.set_cons_zero, List.set_cons_succ])
        refine wpAnyH_ready (rs := [14]) (by kernel_rfl) (by simp) ?_
        refine AllReadyH.cons rfl (fun K hK => ?_) AllReadyH.nil
        refine step_push1 (by rfl) _ _ _ (by rfl) eInt (v := .slice Ar c.length cr) (by rfl) (Hrow.out.alloc _) w7.heap.size (nV n) (by rfl) (by rw [World.cell?_of_block rfl]; exact box_cell (Below.refl _ _) 0) (by rfl) (by omega) (by simp; omega) ?_
        intro v' w5 hown hg hat
        obtain ⟨Aq, cq, rfl⟩ := own_shape hown
        have hbel : Below w7.heap.size w7 (w7.alloc (.cells #[nV n] 3)).drew := (below_alloc _ _).drew
        have H7 := Lib.hid (RR.pushLast HRR.out hbel Hvk.out Hck.out hown hg hat)
        have HKq := Lib.hid ((HK.out.trans (keepG_below hbel)).trans (keepG_grown (G := G) (Hrow.out.alloc _) (.inr rfl) hg))
        have hng : some G ≠ (Value.slice Ar c.length cr).ownBlock := fun e => by obtain ⟨q, hq⟩ := own_obj Hrow.out e.symm; rw [HG.out] at hq; exact absurd (Obj.cells.inj (Option.some.inj hq)).2.1 (by decide)
        have hGlt := (Array.getElem?_eq_some_iff.1 HG.out).1
        have HG5 := Lib.hid ((hg.block G (by simp; omega) hng).trans ((hbel.block G hGlt).trans HG.out))
        have hgn : some gw ≠ (Value.slice Ar c.length cr).ownBlock := fun e => by obtain ⟨q, hq⟩ := own_obj Hrow.out e.symm; obtain ⟨q2, hq2⟩ := own_obj HRR.out.own (g := gw) rfl; rw [hq2] at hq; exact absurd (Obj.cells.inj (Option.some.inj hq)).2.1 (by decide)
        have HO5 := Lib.hid (show w5.ownsRow B 56 1 (.slice (some ⟨gw, 0, none⟩) out'.length c') out'.length vz from own_ag HRR.out.own fun g hg' => by cases hg'; exact (hg.block gw (by simp; have := (HRR.out.own.lt gw rfl).2; omega) hgn).trans (hbel.block gw (HRR.out.own.lt gw rfl).2))
        have q5 := cell_of_row w5 G 0 _ _ (0, 0) HG5.out
        have q5 : w5.cell? ⟨G, 0, none⟩ = some (.slice (some ⟨gw, 0, none⟩) out'.length c') := q5
        have hfz : w5.frozen? ⟨gw, k, none⟩ = false := by obtain ⟨q2, hq2⟩ := own_obj HO5.out (g := gw) rfl; exact frozen_of_row _ _ _ _ _ hq2
        have hcw5 : w5.cell? ⟨gw, k, none⟩ = some (.slice Ar c.length cr) := by rw [HO5.out.cellAt k (by omega)]; exact Hvk.out
        clear hown hg hat hbel hng hgn
        refine hK.out _ _ q5 (fun hHeld => ?_)
        clear hK K
        (try dsimp only [Act.put, List.setIfInBounds_toArray, List.set_cons_zero, List.set_cons_succ])
        refine wpAnyH_take (i := 15) (v := ?_) rfl (by kernel_rfl) (by kernel_rfl) (by kernel_rfl) (fun _ _ _ h => h) (Or.inl ⟨by rfl, ?_⟩) (by assumption) ?_
        rotate_left
        · intro w1 hSw
          (try dsimp only at hSw)
          go_simp
          (try with_reducible rfl)
        (try dsimp only [Act.put, List.setIfInBounds_toArray, List.set_cons_zero, List.set_cons_succ])
        refine wpAnyH_ready (rs := [16]) (by kernel_rfl) (by simp) ?_
        refine AllReadyH.cons rfl (fun K hK => ?_) AllReadyH.nil
        go_simp
        refine hK.out _ _ (by rw [World.cell?_setCell_far _ _ _ _ (fun e => hGgw e.symm)]; exact q5) (fun hHeld => ?_)
        clear hK K
        (try dsimp only [Act.put, List.setIfInBounds_toArray, List.set_cons_zero, List.set_cons_succ])
        refine wpAnyH_done (by kernel_rfl) ?_ _
        have HGA := Lib.hid (show GAt (w5.setCell ⟨gw, k, none⟩ (.slice Aq (c.length + 1) cq)) B G (pushLast out' n) true most full vars from ⟨_, _, (Below.heap_setCell w5 ⟨gw, k, none⟩ _ G hGgw).trans HG5.out, by rw [HPL.out]; simpa using H7.out⟩)
        have HKz := Lib.hid (HKq.out.trans (keepG_setR (G := G) (k := k) HO5.out (.inl rfl) (.slice Aq (c.length + 1) cq)))
        clear H7 q5
        go_wp2
        refine bodyPost_ret (results_none rfl _ _ _) rfl ?_
        exact HP.out _ HKz.out HGA.out
      · skip
        go_simp
        refine hK.out _ _ g0a (fun hHeld => ?_)
        clear hK K
        (try dsimp only [Act.put, List.setIfInBounds_toArray, List.set_cons_zero, List.set_cons_succ])
        refine wpAnyH_ready (rs := [11]) (by kernel_rfl) (by simp) ?_
        refine AllReadyH.cons rfl (fun K hK => ?_) AllReadyH.nil
        go_simp
        refine hK.out _ _ g0a (fun hHeld => ?_)
        clear hK K
        (try dsimp only [Act.put, List.setIfInBounds_toArray, List.set_cons_zero, List.set_cons_succ])
        refine wpAnyH_ready (rs := [14]) (by kernel_rfl) (by simp) ?_
        refine AllReadyH.cons rfl (fun K hK => ?_) AllReadyH.nil
        refine step_push1 (by rfl) _ _ _ (by rfl) eInt (v := .slice Ar c.length cr) (by rfl) (Hrow.out.alloc _) w7.heap.size (nV n) (by rfl) (by rw [World.cell?_of_block rfl]; exact box_cell (Below.refl _ _) 0) (by rfl) (by omega) (by simp; omega) ?_
        intro v' w5 hown hg hat
        obtain ⟨Aq, cq, rfl⟩ := own_shape hown
        have hbel : Below w7.heap.size w7 (w7.alloc (.cells #[nV n] 3)).drew := (below_alloc _ _).drew
        have H7 := Lib.hid (RR.pushLast HRR.out hbel Hvk.out Hck.out hown hg hat)
        have HKq := Lib.hid ((HK.out.trans (keepG_below hbel)).trans (keepG_grown (G := G) (Hrow.out.alloc _) (.inr rfl) hg))
        have hng : some G ≠ (Value.slice Ar c.length cr).ownBlock := fun e => by obtain ⟨q, hq⟩ := own_obj Hrow.out e.symm; rw [HG.out] at hq; exact absurd (Obj.cells.inj (Option.some.inj hq)).2.1 (by decide)
        have hGlt := (Array.getElem?_eq_some_iff.1 HG.out).1
        have HG5 := Lib.hid ((hg.block G (by simp; omega) hng).trans ((hbel.block G hGlt).trans HG.out))
        have hgn : some gw ≠ (Value.slice Ar c.length cr).ownBlock := fun e => by obtain ⟨q, hq⟩ := own_obj Hrow.out e.symm; obtain ⟨q2, hq2⟩ := own_obj HRR.out.own (g := gw) rfl; rw [hq2] at hq; exact absurd (Obj.cells.inj (Option.some.inj hq)).2.1 (by decide)
        have HO5 := Lib.hid (show w5.ownsRow B 56 1 (.slice (some ⟨gw, 0, none⟩) out'.length c') out'.length vz from own_ag HRR.out.own fun g hg' => by cases hg'; exact (hg.block gw (by simp; have := (HRR.out.own.lt gw rfl).2; omega) hgn).trans (hbel.block gw (HRR.out.own.lt gw rfl).2))
        have q5 := cell_of_row w5 G 0 _ _ (0, 0) HG5.out
        have q5 : w5.cell? ⟨G, 0, none⟩ = some (.slice (some ⟨gw, 0, none⟩) out'.length c') := q5
        have hfz : w5.frozen? ⟨gw, k, none⟩ = false := by obtain ⟨q2, hq2⟩ := own_obj HO5.out (g := gw) rfl; exact frozen_of_row _ _ _ _ _ hq2
        have hcw5 : w5.cell? ⟨gw, k, none⟩ = some (.slice Ar c.length cr) := by rw [HO5.out.cellAt k (by omega)]; exact Hvk.out
        clear hown hg hat hbel hng hgn
        refine hK.out _ _ q5 (fun hHeld => ?_)
        clear hK K
        (try dsimp only [Act.put, List.setIfInBounds_toArray, List.set_cons_zero, List.set_cons_succ])
        refine wpAnyH_take (i := 15) (v := ?_) rfl (by kernel_rfl) (by kernel_rfl) (by kernel_rfl) (fun _ _ _ h => h) (Or.inl ⟨by rfl, ?_⟩) (by assumption) ?_
        rotate_left
        · intro w1 hSw
          (try dsimp only at hSw)
          go_simp
          (try with_reducible rfl)
        (try dsimp only [Act.put, List.setIfInBounds_toArray, List.set_cons_zero, List.set_cons_succ])
        refine wpAnyH_ready (rs := [16]) (by kernel_rfl) (by simp) ?_
        refine AllReadyH.cons rfl (fun K hK => ?_) AllReadyH.nil
        go_simp
        refine hK.out _ _ (by rw [World.cell?_setCell_far _ _ _ _ (fun e => hGgw e.symm)]; exact q5) (fun hHeld => ?_)
        clear hK K
        (try dsimp only [Act.put, List.setIfInBounds_toArray, List.set_cons_zero, List.set_cons_succ])
        refine wpAnyH_done (by kernel_rfl) ?_ _
        have HGA := Lib.hid (show GAt (w5.setCell ⟨gw, k, none⟩ (.slice Aq (c.length + 1) cq)) B G (pushLast out' n) true most full vars from ⟨_, _, (Below.heap_setCell w5 ⟨gw, k, none⟩ _ G hGgw).trans HG5.out, by rw [HPL.out]; simpa using H7.out⟩)
        have HKz := Lib.hid (HKq.out.trans (keepG_setR (G := G) (k := k) HO5.out (.inl rfl) (.slice Aq (c.length + 1) cq)))
        clear H7 q5
        go_wp2
        refine bodyPost_ret (results_none rfl _ _ _) rfl ?_
        exact HP.out _ HKz.out HGA.out
    · skip
      go_wp2_with (go_at_call 31; refine (HF.out _ _).mono ?_; rintro e w9 ⟨rfl, rfl⟩)
      refine wp_region_held_drew (S := (fun w' => w'.cell? ⟨G, 0, none⟩ = some (.slice (some ⟨gw, 0, none⟩) out'.length c'))) (by kernel_rfl) g0 (fun hHeld => ?_)
      refine wpAnyH_take (i := 0) (v := ?_) rfl (by kernel_rfl) (by kernel_rfl) (by kernel_rfl) (fun _ _ _ h => h) (Or.inl ⟨by rfl, ?_⟩) (by assumption) ?_
      rotate_left
      · intro w1 hSw
        (try dsimp only at hSw)
        go_simp
        (try with_reducible rfl)
      (try dsimp only [Act.put, List.setIfInBounds_toArray, List.set_cons_zero, List.set_cons_succ])
      refine wpAnyH_take (i := 1) (v := ?_) rfl (by kernel_rfl) (by kernel_rfl) (by kernel_rfl) (fun _ _ _ h => h) (Or.inl ⟨by rfl, ?_⟩) (by assumption) ?_
      rotate_left
      · intro w1 hSw
        (try dsimp only at hSw)
        go_simp
        (try with_reducible rfl)
      (try dsimp only [Act.put, List.setIfInBounds_toArray, List.set_cons_zero, List.set_cons_succ])
      refine wpAnyH_take (i := 2) (v := ?_) rfl (by kernel_rfl) (by kernel_rfl) (by kernel_rfl) (fun _ _ _ h => h) (Or.inl ⟨by rfl, ?_⟩) (by assumption) ?_
      rotate_left
      · intro w1 hSw
        (try dsimp only at hSw)
        go_simp
        (try with_reducible rfl)
      (try dsimp only [Act.put, List.setIfInBounds_toArray, List.set_cons_zero, List.set_cons_succ])
      refine wpAnyH_take (i := 3) (v := ?_) rfl (by kernel_rfl) (by kernel_rfl) (by kernel_rfl) (fun _ _ _ h => h) (Or.inl ⟨by rfl, ?_⟩) (by assumption) ?_
      rotate_left
      · intro w1 hSw
        (try dsimp only at hSw)
        go_simp
        (try with_reducible rfl)
      (try dsimp only [Act.put, List.setIfInBounds_toArray, List.set_cons_zero, List.set_cons_succ])
      refine wpAnyH_take (i := 4) (v := ?_) rfl (by kernel_rfl) (by kernel_rfl) (by kernel_rfl) (fun _ _ _ h => h) (Or.inl ⟨by rfl, ?_⟩) (by assumption) ?_
      rotate_left
      · intro w1 hSw
        (try dsimp only at hSw)
        go_simp
        (try with_reducible rfl)
      (try dsimp only [Act.put, List.setIfInBounds_toArray, List.set_cons_zero, List.set_cons_succ])
      refine wpAnyH_take (i := 5) (v := ?_) rfl (by kernel_rfl) (by kernel_rfl) (by kernel_rfl) (fun _ _ _ h => h) (Or.inl ⟨by rfl, ?_⟩) (by assumption) ?_
      rotate_left
      · intro w1 hSw
        (try dsimp only at hSw)
        go_simp
        (try with_reducible rfl)
      (try dsimp only [Act.put, List.setIfInBounds_toArray, List.set_cons_zero, List.set_cons_succ])
      refine wpAnyH_take (i := 6) (v := ?_) rfl (by kernel_rfl) (by kernel_rfl) (by kernel_rfl) (fun _ _ _ h => h) (Or.inl ⟨by rfl, ?_⟩) (by assumption) ?_
      rotate_left
      · intro w1 hSw
        (try dsimp only at hSw)
        go_simp
        (try with_reducible rfl)
      (try dsimp only [Act.put, List.setIfInBounds_toArray, List.set_cons_zero, List.set_cons_succ])
      refine wpAnyH_take (i := 7) (v := ?_) rfl (by kernel_rfl) (by kernel_rfl) (by kernel_rfl) (fun _ _ _ h => h) (Or.inl ⟨by rfl, ?_⟩) (by assumption) ?_
      rotate_left
      · intro w1 hSw
        (try dsimp only at hSw)
        go_simp
        (try with_reducible rfl)
      (try dsimp only [Act.put, List.setIfInBounds_toArray, List.set_cons_zero, List.set_cons_succ])
      refine wpAnyH_take (i := 8) (v := ?_) rfl (by kernel_rfl) (by kernel_rfl) (by kernel_rfl) (fun _ _ _ h => h) (Or.inl ⟨by rfl, ?_⟩) (by assumption) ?_
      rotate_left
      · intro w1 hSw
        (try dsimp only at hSw)
        go_simp
        (try with_reducible rfl)
      (try dsimp only [Act.put, List.setIfInBounds_toArray, List.set_cons_zero, List.set_cons_succ])
      refine wpAnyH_take (i := 9) (v := ?_) rfl (by kernel_rfl) (by kernel_rfl) (by kernel_rfl) (fun _ _ _ h => h) (Or.inl ⟨by rfl, ?_⟩) (by assumption) ?_
      rotate_left
      · intro w1 hSw
        (try dsimp only at hSw)
        go_simp
        (try with_reducible rfl)
      (try dsimp only [Act.put, List.setIfInBounds_toArray, List.set_cons_zero, List.set_cons_succ])
      refine wpAnyH_take (i := 10) (v := ?_) rfl (by kernel_rfl) (by kernel_rfl) (by kernel_rfl) (fun _ _ _ h => h) (Or.inl ⟨by rfl, ?_⟩) (by assumption) ?_
      rotate_left
      · intro w1 hSw
        (try dsimp only at hSw)
        go_simp
        (try with_reducible rfl)
      (try dsimp only [Act.put, List.setIfInBounds_toArray, List.set_cons_zero, List.set_cons_succ])
      refine wpAnyH_take (i := 12) (v := ?_) rfl (by kernel_rfl) (by kernel_rfl) (by kernel_rfl) (fun _ _ _ h => h) (Or.inl ⟨by rfl, ?_⟩) (by assumption) ?_
      rotate_left
      · intro w1 hSw
        (try dsimp only at hSw)
        go_simp
        (try with_reducible rfl)
      (try dsimp only [Act.put, List.setIfInBounds_toArray, List.set_cons_zero, List.set_cons_succ])
      refine wpAnyH_ready (rs := [11, 13]) (by kernel_rfl) (by simp) ?_
      refine AllReadyH.cons rfl (fun K hK => ?_) (AllReadyH.cons rfl (fun K hK => ?_) AllReadyH.nil)
      · skip
        go_simp
        refine hK.out _ _ g0 (fun hHeld => ?_)
        clear hK K
        (try dsimp only [Act.put, List.setIfInBounds_toArray, List.set_cons_zero, List.set_cons_succ])
        refine wpAnyH_ready (rs := [13]) (by kernel_rfl) (by simp) ?_
        refine AllReadyH.cons rfl (fun K hK => ?_) AllReadyH.nil
        go_simp
        refine hK.out _ _ g0a (fun hHeld => ?_)
        clear hK K
        (try dsimp only [Act.put, List.setIfInBounds_toArray, List.set_cons_zero, List.set_cons_succ])
        refine wpAnyH_ready (rs := [14]) (by kernel_rfl) (by simp) ?_
        refine AllReadyH.cons rfl (fun K hK => ?_) AllReadyH.nil
        refine step_push1 (by rfl) _ _ _ (by rfl) eInt (v := .slice Ar c.length cr) (by rfl) (Hrow.out.alloc _) w7.heap.size (nV n) (by rfl) (by rw [World.cell?_of_block rfl]; exact box_cell (Below.refl _ _) 0) (by rfl) (by omega) (by simp; omega) ?_
        intro v' w5 hown hg hat
        obtain ⟨Aq, cq, rfl⟩ := own_shape hown
        have hbel : Below w7.heap.size w7 (w7.alloc (.cells #[nV n] 3)).drew := (below_alloc _ _).drew
        have H7 := Lib.hid (RR.pushLast HRR.out hbel Hvk.out Hck.out hown hg hat)
        have HKq := Lib.hid ((HK.out.trans (keepG_below hbel)).trans (keepG_grown (G := G) (Hrow.out.alloc _) (.inr rfl) hg))
        have hng : some G ≠ (Value.slice Ar c.length cr).ownBlock := fun e => by obtain ⟨q, hq⟩ := own_obj Hrow.out e.symm; rw [HG.out] at hq; exact absurd (Obj.cells.inj (Option.some.inj hq)).2.1 (by decide)
        have hGlt := (Array.getElem?_eq_some_iff.1 HG.out).1
        have HG5 := Lib.hid ((hg.block G (by simp; omega) hng).trans ((hbel.block G hGlt).trans HG.out))
        have hgn : some gw ≠ (Value.slice Ar c.length cr).ownBlock := fun e => by obtain ⟨q, hq⟩ := own_obj Hrow.out e.symm; obtain ⟨q2, hq2⟩ := own_obj HRR.out.own (g := gw) rfl; rw [hq2] at hq; exact absurd (Obj.cells.inj (Option.some.inj hq)).2.1 (by decide)
        have HO5 := Lib.hid (show w5.ownsRow B 56 1 (.slice (some ⟨gw, 0, none⟩) out'.length c') out'.length vz from own_ag HRR.out.own fun g hg' => by cases hg'; exact (hg.block gw (by simp; have := (HRR.out.own.lt gw rfl).2; omega) hgn).trans (hbel.block gw (HRR.out.own.lt gw rfl).2))
        have q5 := cell_of_row w5 G 0 _ _ (0, 0) HG5.out
        have q5 : w5.cell? ⟨G, 0, none⟩ = some (.slice (some ⟨gw, 0, none⟩) out'.length c') := q5
        have hfz : w5.frozen? ⟨gw, k, none⟩ = false := by obtain ⟨q2, hq2⟩ := own_obj HO5.out (g := gw) rfl; exact frozen_of_row _ _ _ _ _ hq2
        have hcw5 : w5.cell? ⟨gw, k, none⟩ = some (.slice Ar c.length cr) := by rw [HO5.out.cellAt k (by omega)]; exact Hvk.out
        clear hown hg hat hbel hng hgn
        refine hK.out _ _ q5 (fun hHeld => ?_)
        clear hK K
        (try dsimp only [Act.put, List.setIfInBounds_toArray, List.set_cons_zero, List.set_cons_succ])
        refine wpAnyH_take (i := 15) (v := ?_) rfl (by kernel_rfl) (by kernel_rfl) (by kernel_rfl) (fun _ _ _ h => h) (Or.inl ⟨by rfl, ?_⟩) (by assumption) ?_
        rotate_left
        · intro w1 hSw
          (try dsimp only at hSw)
          go_simp
          (try with_reducible rfl)
        (try dsimp only [Act.put, List.setIfInBounds_toArray, List.set_cons_zero, List.set_cons_succ])
        refine wpAnyH_ready (rs := [16]) (by kernel_rfl) (by simp) ?_
        refine AllReadyH.cons rfl (fun K hK => ?_) AllReadyH.nil
        go_simp
        refine hK.out _ _ (by rw [World.cell?_setCell_far _ _ _ _ (fun e => hGgw e.symm)]; exact q5) (fun hHeld => ?_)
        clear hK K
        (try dsimp only [Act.put, List.setIfInBounds_toArray, List.set_cons_zero, List.set_cons_succ])
        refine wpAnyH_done (by kernel_rfl) ?_ _
        have HGA := Lib.hid (show GAt (w5.setCell ⟨gw, k, none⟩ (.slice Aq (c.length + 1) cq)) B G (pushLast out' n) true most full vars from ⟨_, _, (Below.heap_setCell w5 ⟨gw, k, none⟩ _ G hGgw).trans HG5.out, by rw [HPL.out]; simpa using H7.out⟩)
        have HKz := Lib.hid (HKq.out.trans (keepG_setR (G := G) (k := k) HO5.out (.inl rfl) (.slice Aq (c.length + 1) cq)))
        clear H7 q5
        go_wp2
        refine bodyPost_ret (results_none rfl _ _ _) rfl ?_
        exact HP.out _ HKz.out HGA.out
      · skip
        go_simp
        refine hK.out _ _ g0a (fun hHeld => ?_)
        clear hK K
        (try dsimp only [Act.put, List.setIfInBounds_toArray, List.set_cons_zero, List.set_cons_succ])
        refine wpAnyH_ready (rs := [11]) (by kernel_rfl) (by simp) ?_
        refine AllReadyH.cons rfl (fun K hK => ?_) AllReadyH.nil
        go_simp
        refine hK.out _ _ g0a (fun hHeld => ?_)
        clear hK K
        (try dsimp only [Act.put, List.setIfInBounds_toArray, List.set_cons_zero, List.set_cons_succ])
        refine wpAnyH_ready (rs := [14]) (by kernel_rfl) (by simp) ?_
        refine AllReadyH.cons rfl (fun K hK => ?_) AllReadyH.nil
        refine step_push1 (by rfl) _ _ _ (by rfl) eInt (v := .slice Ar c.length cr) (by rfl) (Hrow.out.alloc _) w7.heap.size (nV n) (by rfl) (by rw [World.cell?_of_block rfl]; exact box_cell (Below.refl _ _) 0) (by rfl) (by omega) (by simp; omega) ?_
        intro v' w5 hown hg hat
        obtain ⟨Aq, cq, rfl⟩ := own_shape hown
        have hbel : Below w7.heap.size w7 (w7.alloc (.cells #[nV n] 3)).drew := (below_alloc _ _).drew
        have H7 := Lib.hid (RR.pushLast HRR.out hbel Hvk.out Hck.out hown hg hat)
        have HKq := Lib.hid ((HK.out.trans (keepG_below hbel)).trans (keepG_grown (G := G) (Hrow.out.alloc _) (.inr rfl) hg))
        have hng : some G ≠ (Value.slice Ar c.length cr).ownBlock := fun e => by obtain ⟨q, hq⟩ := own_obj Hrow.out e.symm; rw [HG.out] at hq; exact absurd (Obj.cells.inj (Option.some.inj hq)).2.1 (by decide)
        have hGlt := (Array.getElem?_eq_some_iff.1 HG.out).1
        have HG5 := Lib.hid ((hg.block G (by simp; omega) hng).trans ((hbel.block G hGlt).trans HG.out))
        have hgn : some gw ≠ (Value.slice Ar c.length cr).ownBlock := fun e => by obtain ⟨q, hq⟩ := own_obj Hrow.out e.symm; obtain ⟨q2, hq2⟩ := own_obj HRR.out.own (g := gw) rfl; rw [hq2] at hq; exact absurd (Obj.cells.inj (Option.some.inj hq)).2.1 (by decide)
        have HO5 := Lib.hid (show w5.ownsRow B 56 1 (.slice (some ⟨gw, 0, none⟩) out'.length c') out'.length vz from own_ag HRR.out.own fun g hg' => by cases hg'; exact (hg.block gw (by simp; have := (HRR.out.own.lt gw rfl).2; omega) hgn).trans (hbel.block gw (HRR.out.own.lt gw rfl).2))
        have q5 := cell_of_row w5 G 0 _ _ (0, 0) HG5.out
        have q5 : w5.cell? ⟨G, 0, none⟩ = some (.slice (some ⟨gw, 0, none⟩) out'.length c') := q5
        have hfz : w5.frozen? ⟨gw, k, none⟩ = false := by obtain ⟨q2, hq2⟩ := own_obj HO5.out (g := gw) rfl; exact frozen_of_row _ _ _ _ _ hq2
        have hcw5 : w5.cell? ⟨gw, k, none⟩ = some (.slice Ar c.length cr) := by rw [HO5.out.cellAt k (by omega)]; exact Hvk.out
        clear hown hg hat hbel hng hgn
        refine hK.out _ _ q5 (fun hHeld => ?_)
        clear hK K
        (try dsimp only [Act.put, List.setIfInBounds_toArray, List.set_cons_zero, List.set_cons_succ])
        refine wpAnyH_take (i := 15) (v := ?_) rfl (by kernel_rfl) (by kernel_rfl) (by kernel_rfl) (fun _ _ _ h => h) (Or.inl ⟨by rfl, ?_⟩) (by assumption) ?_
        rotate_left
        · intro w1 hSw
          (try dsimp only at hSw)
          go_simp
          (try with_reducible rfl)
        (try dsimp only [Act.put, List.setIfInBounds_toArray, List.set_cons_zero, List.set_cons_succ])
        refine wpAnyH_ready (rs := [16]) (by kernel_rfl) (by simp) ?_
        refine AllReadyH.cons rfl (fun K hK => ?_) AllReadyH.nil
        go_simp
        refine hK.out _ _ (by rw [World.cell?_setCell_far _ _ _ _ (fun e => hGgw e.symm)]; exact q5) (fun hHeld => ?_)
        clear hK K
        (try dsimp only [Act.put, List.setIfInBounds_toArray, List.set_cons_zero, List.set_cons_succ])
        refine wpAnyH_done (by kernel_rfl) ?_ _
        have HGA := Lib.hid (show GAt (w5.setCell ⟨gw, k, none⟩ (.slice Aq (c.length + 1) cq)) B G (pushLast out' n) true most full vars from ⟨_, _, (Below.heap_setCell w5 ⟨gw, k, none⟩ _ G hGgw).trans HG5.out, by rw [HPL.out]; simpa using H7.out⟩)
        have HKz := Lib.hid (HKq.out.trans (keepG_setR (G := G) (k := k) HO5.out (.inl rfl) (.slice Aq (c.length + 1) cq)))
        clear H7 q5
        go_wp2
        refine bodyPost_ret (results_none rfl _ _ _) rfl ?_
        exact HP.out _ HKz.out HGA.out
end Go.Proofs.YtgfbmidpiamkhaaDoor
