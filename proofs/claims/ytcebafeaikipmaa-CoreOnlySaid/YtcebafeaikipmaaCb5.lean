/- core.Of: what it computes. / core.Of, whole. -/
import Derived.Deep.RegionHeld
import Derived.Test.YtcebafeaikipmaaCb4
namespace Go.Proofs.Ytcebafeaikipmaa
open Go.RowKit
open S15 (Ch Kp ch_new ch_set kp_new)

structure OfEnv (w : World) (B0 p0 p1 p2 : Nat) (vI vW : Value) (r most : Int) (items : List ItemD) (wss : List (List (List Int))) (v : Value) : Prop where
  h0 : w.heap[p0]? = some (.cells #[vI, vW, .int .i64 r] 25 (0, 0))
  h1 : w.heap[p1]? = some (.cells #[.int .i64 most] 3 (0, 0))
  h2 : w.heap[p2]? = some (.cells #[v] 26 (0, 0))
  n02 : p0 ≠ p2
  n12 : p1 ≠ p2
  lo : B0 ≤ p0 ∧ B0 ≤ p1 ∧ B0 ≤ p2
  rI : RItems w (Lt B0) vI items
  rW : RIntsss w (Lt B0) vW wss
section
variable {w w' : World} {B0 p0 p1 p2 : Nat} {vI vW v : Value} {r most : Int} {items : List ItemD} {wss : List (List (List Int))}
theorem OfEnv.up (h : OfEnv w B0 p0 p1 p2 vI vW r most items wss v) (hb : Below w.heap.size w w') : OfEnv w' B0 p0 p1 p2 vI vW r most items wss v := by
  have l0 := (Array.getElem?_eq_some_iff.1 h.h0).1
  have l1 := (Array.getElem?_eq_some_iff.1 h.h1).1
  have l2 := (Array.getElem?_eq_some_iff.1 h.h2).1
  have hlo := h.lo
  exact ⟨(hb.block _ l0).trans h.h0, (hb.block _ l1).trans h.h1, (hb.block _ l2).trans h.h2, h.n02, h.n12, h.lo, RItems.stable.agree h.rI (fun b (hb' : b < B0) => hb.block b (by omega)), RIntsss.stable.agree h.rW (fun b (hb' : b < B0) => hb.block b (by omega))⟩
theorem OfEnv.cells (h : OfEnv w B0 p0 p1 p2 vI vW r most items wss v) : w.cell? ⟨p0, 0, none⟩ = some vI ∧ w.cell? ⟨p0, 1, none⟩ = some vW ∧ w.cell? ⟨p0, 2, none⟩ = some (.int .i64 r) ∧ w.cell? ⟨p1, 0, none⟩ = some (.int .i64 most) ∧ w.cell? ⟨p2, 0, none⟩ = some v ∧ w.frozen? ⟨p2, 0, none⟩ = false :=
  ⟨cell_of_row _ _ _ _ _ (0, 0) h.h0, cell_of_row _ _ _ _ _ (0, 0) h.h0, cell_of_row _ _ _ _ _ (0, 0) h.h0, cell_of_row _ _ _ _ _ (0, 0) h.h1, cell_of_row _ _ _ _ _ (0, 0) h.h2, frozen_of_row _ _ _ _ _ h.h2⟩
theorem OfEnv.lt (h : OfEnv w B0 p0 p1 p2 vI vW r most items wss v) : p0 < w.heap.size ∧ p1 < w.heap.size ∧ p2 < w.heap.size ∧ B0 ≤ w.heap.size := by
  have l0 := (Array.getElem?_eq_some_iff.1 h.h0).1
  have hlo := h.lo
  exact ⟨l0, (Array.getElem?_eq_some_iff.1 h.h1).1, (Array.getElem?_eq_some_iff.1 h.h2).1, by omega⟩
theorem OfEnv.reads (h : OfEnv w B0 p0 p1 p2 vI vW r most items wss v) : RItems w (Lt w.heap.size) vI items ∧ RIntsss w (Lt w.heap.size) vW wss :=
  ⟨RItems.stable.sub h.rI fun b (hb : b < B0) => Nat.lt_of_lt_of_le hb h.lt.2.2.2, RIntsss.stable.sub h.rW fun b (hb : b < B0) => Nat.lt_of_lt_of_le hb h.lt.2.2.2⟩
end
/-- what the closure leaves, when it ends well -/
def OfDone (w w' : World) (p2 : Nat) (m : List WantD) : Prop := ∃ v, w'.heap[p2]? = some (.cells #[v] 26 (0, 0)) ∧ RWants w' (fun b => w.heap.size ≤ b ∧ b < w'.heap.size) v m ∧ Ch (fun b => b = p2) w w'
def ofC (o0 : Except (Int × Int) Bool) (ol : Except (Int × Int) (List WantD)) : Except (Int × Int) (Option (List WantD)) :=
  match o0 with
  | .error p => .error p
  | .ok false => .ok none
  | .ok true => match ol with | .error p => .error p | .ok m => .ok (some m)
def OfPost (w w' : World) (p2 : Nat) (e : Ending) : Except (Int × Int) (Option (List WantD)) → Prop
  | .error p => e = .panicked (flt p.1 p.2) ∧ Below w.heap.size w w'
  | .ok none => e = .returned (.int .i64 1) ∧ Below w.heap.size w w'
  | .ok (some m) => e = .returned (.int .i64 2) ∧ OfDone w w' p2 m
set_option maxRecDepth 100000 in
set_option maxHeartbeats 4000000 in
theorem of1_any (p0 p1 p2 B0 : Nat) (vI vW v : Value) (r most : Int) (items : List ItemD) (wss : List (List (List Int))) (w : World) (o0 : Except (Int × Int) Bool) (B : List WantD → Except (Int × Int) Bool)
    (hE : OfEnv w B0 p0 p1 p2 vI vW r most items wss v) (hl : lightC items.length wss = true) (hmost : most ≤ 200 ∨ 512 ≤ most) (hm2 : most ≤ 2000000) (ho : IbR items wss r most o0) (hB : ∀ m, IbR items (onlyW m wss) r most (B m)) :
    Calls Try.prog 27 #[.pointer (some ⟨p0, 0, none⟩), .pointer (some ⟨p1, 0, none⟩), .pointer (some ⟨p2, 0, none⟩)] w fun e w' => OfPost w w' p2 e (ofC o0 (leastO B (allW wss) (allW wss))) := by
  obtain ⟨c0, c1, c2, c3, c4, c5⟩ := hE.cells
  obtain ⟨l0, l1, l2, l3⟩ := hE.lt
  have HE := Lib.hid hE
  have HL := Lib.hid hl
  have Hmo := Lib.hid hmost
  have Hm2 := Lib.hid hm2
  have HB := Lib.hid hB
  have HIb := Lib.hid (isBlamed_any vI vW r items wss most w o0 hE.reads.1 hE.reads.2 hl hmost hm2 ho)
  obtain ⟨ol, hol⟩ : ∃ ol, ol = leastO B (allW wss) (allW wss) := ⟨_, rfl⟩
  have Hol := Lib.hid hol
  rw [← hol]
  clear hE hl hmost hm2 ho hB hol
  cases o0 with
  | error p =>
    go_enter Try.func27, Try.ntmps27
    go_wp2_with (go_at_call 28; with_reducible refine HIb.out.mono ?_; rintro e w1 ⟨rfl, b1⟩; go_loud (unfold ibEnd; have HB1 := Lib.hid b1; clear b1))
    exact ⟨rfl, rfl, HB1.out⟩
  | ok bb =>
    cases bb with
    | false =>
      go_enter Try.func27, Try.ntmps27
      go_wp2_with (go_at_call 28; with_reducible refine HIb.out.mono ?_; rintro e w1 ⟨rfl, b1⟩; go_loud (unfold ibEnd; have HB1 := Lib.hid b1; clear b1))
      go_ret
      exact ⟨rfl, HB1.out⟩
    | true =>
      go_enter Try.func27, Try.ntmps27
      go_upto_region 3 with (go_at_call 28; with_reducible refine HIb.out.mono ?_; rintro e w1 ⟨rfl, b1⟩; go_loud (unfold ibEnd; have HB1 := Lib.hid b1; have HE1 := Lib.hid (HE.out.up b1); clear b1))
      obtain ⟨d0, d1, d2, d3, d4, d5⟩ := HE1.out.cells
      obtain ⟨m0, m1, m2, m3⟩ := HE1.out.lt
      clear c0 c1 c2 c3 c4 c5 l0 l1 l2 l3 HIb
      have HAl := Lib.hid (fun (W : World) (h : Below w1.heap.size w1 W) => show Calls Try.prog 13 #[.agg #[vI, vW, .int .i64 r]] W fun e w3 => ∃ A c, e = .returned (.slice A (allW wss).length c) ∧ (w3.cell? ⟨p0, 0, none⟩ = some vI ∧ w3.cell? ⟨p0, 1, none⟩ = some vW ∧ w3.cell? ⟨p0, 2, none⟩ = some (.int .i64 r) ∧ w3.cell? ⟨p1, 0, none⟩ = some (.int .i64 most)) ∧ Hid (RWants w3 (fun b => W.heap.size ≤ b ∧ b < w3.heap.size) (.slice A (allW wss).length c) (allW wss) ∧ Below w1.heap.size w1 w3) by
        have hE1 := HE1.out.up h
        obtain ⟨AI, cI, rfl, -, -⟩ := hE1.rI.open_
        have hl7 := lightC_W HL.out
        refine (All_any _ _ _ vW r wss W hE1.reads.2 (fun ws hw => by
          obtain ⟨i, hi, rfl⟩ := List.getElem_of_mem hw
          have := (hl7.2.2 i hi).1; omega) (by omega)).mono ?_
        rintro e w3 ⟨v3, rfl, ho3, b3⟩
        obtain ⟨A, c, rfl⟩ := ho3.shape
        have hk := (hE1.up b3).cells
        exact ⟨A, c, rfl, ⟨hk.1, hk.2.1, hk.2.2.1, hk.2.2.2.1⟩, Lib.hid ⟨ho3.reads, h.trans (b3.mono h.size)⟩⟩)
      have HLe := Lib.hid (fun (W : World) (A : Option Addr) (c : Nat) (h : Hid (RWants W (fun b => w1.heap.size ≤ b ∧ b < W.heap.size) (.slice A (allW wss).length c) (allW wss) ∧ Below w1.heap.size w1 W)) => show Calls Try.prog 29 #[.agg #[vI, vW, .int .i64 r], .slice A (allW wss).length c, .int .i64 most] W fun e w4 => LeastEnd (fun b => w1.heap.size ≤ b) w4 e ol ∧ (w4.cell? ⟨p2, 0, none⟩ = some v ∧ w4.frozen? ⟨p2, 0, none⟩ = false) ∧ Hid (Below w1.heap.size w1 w4 ∧ OfEnv w4 B0 p0 p1 p2 vI vW r most items wss v) by
        have hE1 := HE1.out.up h.out.2
        have hl7 := lightC_W HL.out
        refine (least_any vI vW _ r items wss (allW wss) most W B (fun b => w1.heap.size ≤ b) (fun b hb => Nat.le_trans h.out.2.size hb) hE1.reads.1 hE1.reads.2 h.out.1 HL.out (by
          have := allTo_len (wss := wss) (fun ws hw => by
            obtain ⟨i, hi, rfl⟩ := List.getElem_of_mem hw
            have := (hl7.2.2 i hi).1; omega) wss.length (Nat.le_refl _)
          unfold allW; omega) Hmo.out Hm2.out HB.out).mono ?_
        rintro e w4 ⟨he, b4⟩
        have hk := (hE1.up b4).cells
        exact ⟨by rw [Hol.out]; exact he, ⟨hk.2.2.2.2.1, hk.2.2.2.2.2⟩, Lib.hid ⟨h.out.2.trans (b4.mono h.out.2.size), hE1.up b4⟩⟩)
      cases ol with
      | error p =>
        refine wp_region_held_drew (S := (fun w' => w'.cell? ⟨p0, 0, none⟩ = some vI ∧ w'.cell? ⟨p0, 1, none⟩ = some vW ∧ w'.cell? ⟨p0, 2, none⟩ = some (.int .i64 r) ∧ w'.cell? ⟨p1, 0, none⟩ = some (.int .i64 most))) (by kernel_rfl) ⟨d0, d1, d2, d3⟩ (fun hHeld => ?_)
        refine wpAnyH_take (i := 0) (v := ?_) rfl (by kernel_rfl) (by kernel_rfl) (by kernel_rfl) (fun _ _ _ h => h) (Or.inl ⟨by rfl, ?_⟩) (by assumption) ?_
        rotate_left
        · intro w1 hSw
          (try dsimp only at hSw)
          go_simp
          (try with_reducible rfl)
        (try dsimp only [Act.put, List.setIfInBounds_toArray, List.set_cons_zero, List.set_cons_succ])
        refine wpAnyH_take (i := 1) (v := ?_) rfl (by kernel_rfl) (by kernel_rfl) (by kernel_rfl) (fun _ _ _ h => h) (Or.inl ⟨by rfl, ?_⟩) (by assumption) ?_
        rotate_left
        · intro w1 hSw
          (try dsimp only at hSw)
          go_simp
          (try with_reducible rfl)
        (try dsimp only [Act.put, List.setIfInBounds_toArray, List.set_cons_zero, List.set_cons_succ])
        refine wpAnyH_take (i := 3) (v := ?_) rfl (by kernel_rfl) (by kernel_rfl) (by kernel_rfl) (fun _ _ _ h => h) (Or.inl ⟨by rfl, ?_⟩) (by assumption) ?_
        rotate_left
        · intro w1 hSw
          (try dsimp only at hSw)
          go_simp
          (try with_reducible rfl)
        (try dsimp only [Act.put, List.setIfInBounds_toArray, List.set_cons_zero, List.set_cons_succ])
        refine wpAnyH_ready (rs := [2]) (by kernel_rfl) (by simp) ?_
        refine AllReadyH.cons rfl (fun K hK => ?_) AllReadyH.nil
        go_simp
        refine (HAl.out _ (by repeat (first | exact Below.refl _ _ | refine Below.drew ?_))).mono ?_
        rintro e w3 ⟨A3, c3, rfl, ⟨hk0, hk1, hk2, hk3⟩, HF3⟩
        dsimp only
        refine hK.out _ _ ⟨hk0, hk1, hk2, hk3⟩ (fun hHeld => ?_)
        clear hK K
        (try dsimp only [Act.put, List.setIfInBounds_toArray, List.set_cons_zero, List.set_cons_succ])
        refine wpAnyH_ready (rs := [4]) (by kernel_rfl) (by simp) ?_
        refine AllReadyH.cons rfl (fun K hK => ?_) AllReadyH.nil
        go_simp
        refine (HLe.out _ _ _ HF3).mono ?_
        rintro e w4 ⟨he4, ⟨hk4, hf4⟩, HF4⟩
        unfold LeastEnd at he4
        subst he4
        exact ⟨rfl, rfl, HB1.out.trans (HF4.out.1.mono HB1.out.size)⟩
      | ok m =>
        go_region_law (first
          | (go_simp; go_at_call 13; (with_reducible refine (HAl.out _ (by repeat (first | exact Below.refl _ _ | refine Below.drew ?_))).mono ?_); rintro e w3 ⟨A3, c3, rfl, ⟨hk0, hk1, hk2, hk3⟩, HF3⟩)
          | (go_simp; go_at_call 29; (with_reducible refine (HLe.out _ _ _ HF3).mono ?_); rintro e w4 ⟨he4, ⟨hk4, hf4⟩, HF4⟩; unfold LeastEnd at he4; obtain ⟨v4, rfl, hv4⟩ := he4; obtain ⟨A4, c4, rfl⟩ := hv4.shape; have HV4 := Lib.hid hv4; clear hv4))
        all_goals go_wp2
        all_goals go_ret
        all_goals
          have hl4 := HF4.out.2.lt
          refine ⟨rfl, _, heap_setCell_same w4 p2 0 _ _ _ HF4.out.2.h2, ?_, (ch_new (HB1.out.trans (HF4.out.1.mono HB1.out.size)) _).trans (ch_set w4 p2 0 _)⟩
          have hs1 := HB1.out.size
          exact RWants.stable _ _ _ _ _ _ HV4.out (fun b hb => Below.heap_setCell w4 ⟨p2, 0, none⟩ _ b (by show b ≠ p2; omega)) fun b hb => ⟨by omega, by simpa using hb.2⟩
end Go.Proofs.Ytcebafeaikipmaa

namespace Go.Proofs.Ytcebafeaikipmaa
open Go.RowKit
open S15 (Ch Kp ch_new ch_set kp_new ch_below)

def ofRes : Except (Int × Int) (Option (List WantD)) → List WantD × Int × Int
  | .error p => ([], p.1, p.2)
  | .ok none => ([], 1, 0)
  | .ok (some m) => (m, 2, 0)
theorem RWants_nil (w : World) (S : Nat → Prop) : RWants w S (.slice none 0 0) [] := ⟨none, 0, rfl, Nat.le_refl _, Nat.zero_le _, fun h => absurd h (by simp)⟩
theorem leastO_err {B : List WantD → Except (Int × Int) Bool} {p : Int × Int} : ∀ {xs l : List WantD}, leastO B xs l = .error p → ∃ m, B m = .error p
  | [], l, h => by cases h
  | x :: xs, l, h => by
    rw [leastO] at h
    cases hb : B (withoutW l x) with
    | error q => rw [hb] at h; cases h; exact ⟨_, hb⟩
    | ok b => rw [hb] at h; exact leastO_err h
theorem ibR_ne2 {items : List ItemD} {wss : List (List (List Int))} {r most : Int} {p : Int × Int} (h : IbR items wss r most (.error p)) : (p.1 != 2) = true := by
  obtain ⟨x, y⟩ := p
  rcases h with ⟨_, rfl, _⟩ | ⟨_, _, rfl, _⟩ | ⟨_, _, _, rfl, _⟩ <;> rfl
theorem cf27 : ∀ (cap : Array Value) (w : World), (callFunc 27 cap).run Try.prog w = .ok (.enter 27 cap) w := fun cap w => callFunc_run Try.func27 rfl rfl cap w
set_option maxRecDepth 100000 in
set_option maxHeartbeats 4000000 in
theorem of_any (s0 s1 : Value) (r most : Int) (items : List ItemD) (wss : List (List (List Int))) (w : World) (o0 : Except (Int × Int) Bool) (B : List WantD → Except (Int × Int) Bool) (h0 : RItems w (Lt w.heap.size) s0 items) (hw : RIntsss w (Lt w.heap.size) s1 wss)
    (hl : lightC items.length wss = true) (hmost : most ≤ 200 ∨ 512 ≤ most) (hm2 : most ≤ 2000000) (ho : IbR items wss r most o0) (hB : ∀ m, IbR items (onlyW m wss) r most (B m)) :
    Calls Try.prog 15 #[.agg #[s0, s1, .int .i64 r], .int .i64 most] w fun e w' => ∃ v, e = .returned (.tuple #[v, .int .i64 (ofRes (ofC o0 (leastO B (allW wss) (allW wss)))).2.1, .int .i64 (ofRes (ofC o0 (leastO B (allW wss) (allW wss)))).2.2]) ∧
      RWants w' (Lt w'.heap.size) v (ofRes (ofC o0 (leastO B (allW wss) (allW wss)))).1 ∧ Below w.heap.size w w' := by
  have hne2 : ∀ p, ofC o0 (leastO B (allW wss) (allW wss)) = .error p → (p.1 != 2) = true := by
    intro p hp
    cases o0 with
    | error q => cases hp; exact ibR_ne2 ho
    | ok b =>
      cases b with
      | false => cases hp
      | true =>
        simp only [ofC] at hp
        split at hp
        · rename_i q hq
          cases hp
          obtain ⟨m, hm⟩ := leastO_err hq
          have := hB m
          rw [hm] at this
          exact ibR_ne2 this
        · cases hp
  obtain ⟨A0, c0, rfl, hm0, -⟩ := h0.open_
  obtain ⟨A1, c1, rfl, hm1, -⟩ := hw.open_
  obtain ⟨w1, hw1⟩ : ∃ w1, w1 = ((w.alloc (.cells #[.slice A0 items.length c0, .slice A1 wss.length c1, .int .i64 r] 25)).alloc (.cells #[.int .i64 most] 3)).alloc (.cells #[.slice none 0 0] 26) := ⟨_, rfl⟩
  have Hb0 := Lib.hid (show Below w.heap.size w w1 by rw [hw1]; exact (((below_alloc w _).alloc (by simp) _).alloc (by simp; omega) _))
  have hs1 : w1.heap.size = w.heap.size + 3 := by rw [hw1]; simp
  have HEn := Lib.hid (show OfEnv w1 w.heap.size w.heap.size (w.heap.size + 1) (w.heap.size + 2) (.slice A0 items.length c0) (.slice A1 wss.length c1) r most items wss (.slice none 0 0) by
    refine ⟨?_, ?_, ?_, by omega, by omega, by omega, ?_, ?_⟩
    · rw [hw1]; exact heap_at_alloc (heap_at_alloc (heap_alloc_new w _))
    · rw [hw1]; exact heap_at_alloc (by have := heap_alloc_new (w.alloc (.cells #[.slice A0 items.length c0, .slice A1 wss.length c1, .int .i64 r] 25)) (.cells #[.int .i64 most] 3); rwa [World.size_alloc] at this)
    · rw [hw1]; exact heap_new (by simp)
    · exact RItems.stable.agree h0 (fun b hb => Hb0.out.block b hb)
    · exact RIntsss.stable.agree hw (fun b hb => Hb0.out.block b hb))
  obtain ⟨oc, hoc⟩ : ∃ oc, oc = ofC o0 (leastO B (allW wss) (allW wss)) := ⟨_, rfl⟩
  have HO1 := Lib.hid (fun (W : World) (h : Below w1.heap.size w1 W) => of1_any w.heap.size (w.heap.size + 1) (w.heap.size + 2) w.heap.size _ _ _ r most items wss W o0 B (HEn.out.up h) hl hmost hm2 ho hB)
  rw [← hoc] at HO1 hne2 ⊢
  have Hne2 := Lib.hid hne2
  have Hw1 := Lib.hid hw1
  have Hs1 := Lib.hid hs1
  have hmf : ∀ (fn : Fn) (first cap : Array Value) (w : World), (Instr.makeFunc fn first cap).run Try.prog w = .ok (.func fn first cap) w := fun _ _ _ _ => rfl
  have HG : Hid (Calls Try.prog 26 #[.func (.func 27) #[] #[.pointer (some ⟨w.heap.size, 0, none⟩), .pointer (some ⟨w.heap.size + 1, 0, none⟩), .pointer (some ⟨w.heap.size + 2, 0, none⟩)]] w1 fun e w' => e = .returned (.tuple #[.int .i64 (ofRes oc).2.1, .int .i64 (ofRes oc).2.2]) ∧
      ∃ v, w'.heap[w.heap.size + 2]? = some (.cells #[v] 26 (0, 0)) ∧ Below w.heap.size w w' ∧ RWants w' (fun b => w1.heap.size ≤ b ∧ b < w'.heap.size) v (ofRes oc).1) := by
    have h2 := HEn.out.h2
    have hlt2 : w.heap.size + 2 < w1.heap.size := by omega
    cases oc with
    | error p =>
      refine (guard_bad 27 _ w1 p.1 p.2 (fun w2 => Below w1.heap.size w1 w2) (cf27 _) (fun w2 hb hz hen => ?_)).mono ?_
      · refine (HO1.out w2 hb).mono ?_
        rintro e w3 ⟨rfl, b3⟩
        exact ⟨rfl, hen.kp (kp_new b3 _) (kp_new b3 _), hb.trans (b3.mono hb.size)⟩
      · rintro e w3 ⟨rfl, w2, hP, hC⟩
        have hb3 : Below w1.heap.size w1 w3 := hP.trans (hC.below (fun i hi => by omega) hP.size)
        exact ⟨rfl, _, (hb3.block _ hlt2).trans h2, Hb0.out.trans (hb3.mono Hb0.out.size), RWants_nil _ _⟩
    | ok om =>
      cases om with
      | none =>
        refine (guard_ok 27 _ w1 1 (fun w2 => Below w1.heap.size w1 w2) (cf27 _) (fun w2 hb hz hen => ?_)).mono ?_
        · refine (HO1.out w2 hb).mono ?_
          rintro e w3 ⟨rfl, b3⟩
          exact ⟨rfl, hen.kp (kp_new b3 _) (kp_new b3 _), hb.trans (b3.mono hb.size)⟩
        · rintro e w3 ⟨rfl, w2, hP, hC⟩
          have hb3 : Below w1.heap.size w1 w3 := hP.trans (hC.below (fun i hi => by omega) hP.size)
          exact ⟨rfl, _, (hb3.block _ hlt2).trans h2, Hb0.out.trans (hb3.mono Hb0.out.size), RWants_nil _ _⟩
      | some m =>
        refine (guard_ok 27 _ w1 2 (fun w3 => ∃ v, w3.heap[w.heap.size + 2]? = some (.cells #[v] 26 (0, 0)) ∧ RWants w3 (fun b => w1.heap.size + 2 ≤ b ∧ b < w3.heap.size) v m ∧ Below (w.heap.size + 2) w1 w3 ∧ w1.heap.size + 2 ≤ w3.heap.size) (cf27 _) (fun w2 hb hz hen => ?_)).mono ?_
        · refine (HO1.out w2 hb).mono ?_
          rintro e w3 ⟨rfl, v, h1, h2', h3⟩
          refine ⟨rfl, hen.kp (h3.kp (by omega)) (h3.kp (by omega)), v, h1, ?_, ?_, ?_⟩
          · rw [hz] at h2'; exact h2'
          · exact (hb.mono (by omega)).trans (h3.below (fun i hi => by omega) (by omega))
          · have := h3.size; omega
        · rintro e w3 ⟨rfl, w2, ⟨v, h1, h2', h3, h4⟩, hC⟩
          refine ⟨rfl, v, (hC.block _ (by omega) (by omega)).trans h1, Hb0.out.trans ((h3.trans (hC.below (B := w.heap.size + 2) (fun i hi => by omega) (by omega))).mono (by omega)), ?_⟩
          exact RWants.stable _ _ _ _ _ _ h2' (fun b hb => hC.block b hb.2 (by omega)) fun b hb => ⟨by omega, Nat.lt_of_lt_of_le hb.2 hC.size⟩
  clear hoc hne2 hl hmost hm2 ho hB hw1 hs1 HO1 h0 hw
  go_enter Try.func15, Try.ntmps15
  go_wp2_with fail
  rw [show w.heap.size + 1 + 1 = w.heap.size + 2 from rfl, ← Hw1.out]
  have HP2 := Lib.hid (show w.heap.size ≤ w.heap.size + 2 by omega)
  have HPl := Lib.hid (show w.heap.size + 2 < w1.heap.size by have := Hs1.out; omega)
  obtain ⟨P2, hP2⟩ : ∃ P2, P2 = w.heap.size + 2 := ⟨_, rfl⟩
  rw [← hP2] at HG HP2 HPl ⊢
  clear hP2 hmf HEn Hw1 Hb0
  cases oc with
  | error p =>
    have hx := Hne2.out p rfl
    refine HG.out.mono ?_
    rintro e w3 ⟨rfl, v, hv, hb, hr⟩
    simp only [ofRes]
    have hc := cell_of_row _ _ 0 _ _ _ hv
    have hf := frozen_of_row w3 P2 0 _ _ hv
    have hl := (Array.getElem?_eq_some_iff.1 hv).1
    have Hb := Lib.hid hb
    have hc' : w3.cell? ⟨P2, 0, none⟩ = some v := hc
    clear hv hb hr HG hc
    go_wp2
    refine bodyPost_ret (v := .tuple #[.slice none 0 0, .int .i64 p.1, .int .i64 p.2]) (by simp [results, Try.results15, go_sem, hc']) rfl ?_
    exact ⟨_, rfl, RWants_nil _ _, (Hb.out.setCell (p := ⟨P2, 0, none⟩) HP2.out _).setCell (p := ⟨P2, 0, none⟩) HP2.out _⟩
  | ok om =>
    cases om with
    | none =>
      refine HG.out.mono ?_
      rintro e w3 ⟨rfl, v, hv, hb, hr⟩
      simp only [ofRes]
      have hc' : w3.cell? ⟨P2, 0, none⟩ = some v := cell_of_row _ _ 0 _ _ _ hv
      have hf := frozen_of_row w3 P2 0 _ _ hv
      have Hb := Lib.hid hb
      clear hv hb hr HG
      go_wp2
      refine bodyPost_ret (v := .tuple #[.slice none 0 0, .int .i64 1, .int .i64 0]) (by simp [results, Try.results15, go_sem, hc']) rfl ?_
      exact ⟨_, rfl, RWants_nil _ _, (Hb.out.setCell (p := ⟨P2, 0, none⟩) HP2.out _).setCell (p := ⟨P2, 0, none⟩) HP2.out _⟩
    | some m =>
      refine HG.out.mono ?_
      rintro e w3 ⟨rfl, v, hv, hb, hr⟩
      simp only [ofRes] at hr ⊢
      obtain ⟨AV, cV, rfl⟩ := hr.shape
      have hc' : w3.cell? ⟨P2, 0, none⟩ = some (.slice AV m.length cV) := cell_of_row _ _ 0 _ _ _ hv
      have hf := frozen_of_row w3 P2 0 _ _ hv
      have Hb := Lib.hid hb
      have Hr := Lib.hid hr
      clear hv hb hr HG
      go_wp2
      refine bodyPost_ret (v := .tuple #[.slice AV m.length cV, .int .i64 2, .int .i64 0]) (by simp [results, Try.results15, go_sem, hc']) rfl ?_
      refine ⟨_, rfl, RWants.stable _ _ _ _ _ _ Hr.out (fun b hb => Below.heap_setCell w3 ⟨P2, 0, none⟩ _ b ?_) fun b hb => by simpa using hb.2, Hb.out.setCell (p := ⟨P2, 0, none⟩) HP2.out _⟩
      have := HPl.out
      have := hb.1
      show b ≠ P2
      omega
end Go.Proofs.Ytcebafeaikipmaa
