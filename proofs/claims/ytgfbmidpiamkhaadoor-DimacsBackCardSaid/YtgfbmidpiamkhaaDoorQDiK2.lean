/- DimacsProofs: the law, walked. -/
import Derived.Test.YtgfbmidpiamkhaaDoorQDiK1
import Derived.Test.YtgfbmidpiamkhaaDoorQDiR4
import Derived.Test.YtgfbmidpiamkhaaDoorZg
namespace Go.Proofs.YtgfbmidpiamkhaaDoor
open Go.RowKit
open D28

theorem emits_ge {x : Ln} : ∀ {ps : List Bs} {n : Nat}, x ∈ emits n ps → n ≤ x.1
  | [], _, h => by cases h
  | p :: ps, n, h => by
    simp only [emits, List.mem_append] at h
    rcases h with h | h
    · have := mem_emitL (m := x.1) (V := x.2) h; omega
    · have := emits_ge h; omega
theorem lines_ge {a : Bs} {x : Ln} (h : x ∈ linesOf a) : 1 ≤ x.1 := by rw [linesOf_eq] at h; exact emits_ge h
theorem linesG_at {most vars : Int} : ∀ {L : List Ln} {g g' : GS} {c n : Nat}, linesG most vars g L = (g', c + 1, n) → ∃ x ∈ L, x.1 = n
  | [], _, _, _, _, h => by cases h
  | (m, ws) :: r, g, g', c, n, h => by
    rw [linesG_cons] at h
    rcases hw : wordsG most vars g ws with ⟨g2, _ | k⟩ <;> rw [hw] at h
    · obtain ⟨x, hx, e⟩ := linesG_at h
      exact ⟨x, by simp [hx], e⟩
    · simp only [Prod.mk.injEq] at h
      exact ⟨(m, ws), by simp, h.2.2⟩
/-- the clauses of a text: both ways tell the same -/
theorem proofs_both (a : Bs) (ha : a.length ≤ 2000) : ∃ (c n : Int) (full : Bool) (res : List (List Int)), ((c = 0 ∧ n = 0 ∧ full = false) ∨ (c = 1 ∧ 0 < n ∧ full = false ∧ res = []) ∨ (c = 2 ∧ 0 < n ∧ full = true ∧ res = [])) ∧
    (∀ m w, MaxAt m w → Calls Tryd.prog 14 #[sv a] w fun e w' => ∃ v, e = .returned (.tuple #[v, .int .i64 c, .int .i64 n]) ∧ RIntss w' (Lt w'.heap.size) v res ∧ Below w.heap.size w w') ∧
    (∀ w v0, RLines w (Lt w.heap.size) v0 (linesOf a) → Calls Tryd.prog 16 #[v0, .int .i64 (endOf a : Nat), .int .i64 16384, .int .i64 (-1)] w fun e w' => ∃ v, e = .returned (.tuple #[v, .int .i64 n, .bool full]) ∧ RIntss w' (Lt w'.heap.size) v res ∧ Below w.heap.size w w') := by
  have hP := fun m w (hm : MaxAt m w) => ParseProof_any a m w hm (by omega)
  have hC := fun w v0 (h : RLines w (Lt w.heap.size) v0 (linesOf a)) => Clauses_any (linesOf a) v0 (endOf a : Nat) 16384 (-1) w h (by have := lines_count a; omega) (fun x hx => by have := (lines_words hx).1; omega) (by omega)
  rcases hl : linesG 16384 (-1) ([], false) (linesOf a) with ⟨g, _ | _ | k, n⟩
  · cases hg : g.2 with
    | true =>
      refine ⟨1, endOf a, false, [], .inr (.inl ⟨rfl, by unfold endOf; omega, rfl, rfl⟩), fun m w hm => (hP m w hm).mono fun e w' h => ?_, fun w v0 hv => (hC w v0 hv).mono fun e w' h => ?_⟩
      · have hr : gR 16384 2 (-1) a = ((1 : Int), ((endOf a : Nat) : Int), none) := by unfold gR; rw [hl]; exact if_pos hg
        obtain ⟨h1, h2⟩ := h
        rw [hr] at h2
        exact ⟨_, h2, RSl.nil_ _ _ _, h1⟩
      · obtain ⟨h1, h2⟩ := h
        rw [hl] at h2
        have h2 : if g.2 = true then _ else _ := h2
        rw [if_pos hg] at h2
        exact ⟨_, h2, RSl.nil_ _ _ _, h1⟩
    | false =>
      refine ⟨0, 0, false, g.1, .inl ⟨rfl, rfl, rfl⟩, fun m w hm => (hP m w hm).mono fun e w' h => ?_, fun w v0 hv => (hC w v0 hv).mono fun e w' h => ?_⟩
      · have hr : gR 16384 2 (-1) a = (0, 0, some g.1) := by unfold gR; rw [hl]; exact if_neg (by rw [hg]; simp)
        obtain ⟨h1, h2⟩ := h
        rw [hr] at h2
        obtain ⟨v, e, h3⟩ := h2
        exact ⟨v, e, h3, h1⟩
      · obtain ⟨h1, h2⟩ := h
        rw [hl] at h2
        have h2 : if g.2 = true then _ else _ := h2
        rw [if_neg (by rw [hg]; simp)] at h2
        obtain ⟨v, e, h3⟩ := h2
        exact ⟨v, e, h3, h1⟩
  · obtain ⟨x, hx, e0⟩ := linesG_at hl
    have := lines_ge hx
    refine ⟨1, n, false, [], .inr (.inl ⟨rfl, by omega, rfl, rfl⟩), fun m w hm => (hP m w hm).mono fun e w' h => ?_, fun w v0 hv => (hC w v0 hv).mono fun e w' h => ?_⟩
    · have hr : gR 16384 2 (-1) a = ((1 : Int), ((n : Nat) : Int), none) := by unfold gR; rw [hl]; rfl
      obtain ⟨h1, h2⟩ := h
      rw [hr] at h2
      exact ⟨_, h2, RSl.nil_ _ _ _, h1⟩
    · obtain ⟨h1, h2⟩ := h
      rw [hl] at h2
      exact ⟨_, h2, RSl.nil_ _ _ _, h1⟩
  · obtain ⟨x, hx, e0⟩ := linesG_at hl
    have := lines_ge hx
    refine ⟨2, n, true, [], .inr (.inr ⟨rfl, by omega, rfl, rfl⟩), fun m w hm => (hP m w hm).mono fun e w' h => ?_, fun w v0 hv => (hC w v0 hv).mono fun e w' h => ?_⟩
    · have hr : gR 16384 2 (-1) a = ((2 : Int), ((n : Nat) : Int), none) := by unfold gR; rw [hl]; rfl
      obtain ⟨h1, h2⟩ := h
      rw [hr] at h2
      exact ⟨_, h2, RSl.nil_ _ _ _, h1⟩
    · obtain ⟨h1, h2⟩ := h
      rw [hl] at h2
      exact ⟨_, h2, RSl.nil_ _ _ _, h1⟩
set_option maxRecDepth 100000 in
set_option maxHeartbeats 8000000 in
theorem walk_DimacsProofs (m : Int) (W : World) (hm : MaxAt m W) (v0 v1 : Value) (a0 : Arg Tryd.prog W 9 v0) (a1 : Arg Tryd.prog W 22 v1) : Calls Tryd.prog 4 #[v0, v1] W fun e W' => e = .returned (.bool true) ∧ Below W.heap.size W W' := by
  obtain ⟨s, rfl⟩ := arg_string a0
  obtain ⟨l, hl⟩ := arg_rows a1
  clear a0 a1
  obtain ⟨b, hb⟩ : ∃ b, b = s.data.toList := ⟨_, rfl⟩
  obtain rfl : s = bz b := by rw [hb]; exact bz_of s
  clear hb
  have HC := Lib.hid (fun w => cut_any b w)
  obtain ⟨a, ha⟩ : ∃ a, a = b.take 2000 := ⟨_, rfl⟩
  have hal : a.length ≤ 2000 := by rw [ha, List.length_take]; omega
  rw [← ha] at HC
  clear ha
  obtain ⟨c, n, full, res, hway, hP, hR⟩ := proofs_both a hal
  have HP := Lib.hid hP
  have HR := Lib.hid hR
  have HLs := Lib.hid (fun w => refLines_any a w (by omega))
  have HL := Lib.hid hl
  have HM := Lib.hid hm
  have HLi := Lib.hid (fun w (h : MaxAt m w) => lives_any m w h)
  have HY := Lib.hid (fun v w (h : RIntss w (Lt w.heap.size) v l) => light_any v l w h)
  have HQ := Lib.hid (fun (h : lightB28 l = true) v w (hr : RIntss w (Lt w.heap.size) v l) => PrintProof_any v l w hr (light_yes h))
  have HQ2 := Lib.hid (fun (h : lightB28 l = true) v w (hr : RIntss w (Lt w.heap.size) v l) => refPrintProof_any v l w hr (light_yes h))
  clear hP hR hl hm hal
  have hpp : ((bz (printL l)).toList == (bz (printL l)).toList) = true := by simp
  go_enter Tryd.func4, Tryd.ntmps4
  go_upto_if 35 with (first
    | (go_at_call 13; refine (HC.out _).mono ?_; rintro e w1 ⟨rfl, rfl⟩)
    | (go_at_call 14; refine (HP.out _ _ HM.out).mono ?_; rintro e w2 ⟨va, rfl, hva, hb2⟩; have HVa := Lib.hid hva; have HB2 := Lib.hid hb2; clear hva hb2)
    | (go_at_call 15; refine (HLs.out _).mono ?_; rintro e w3 ⟨vl, rfl, hvl, hb3⟩; have HVl := Lib.hid hvl; have HB3 := Lib.hid hb3; clear hvl hb3)
    | (go_at_call 16; refine (HR.out _ _ HVl.out).mono ?_; rintro e w4 ⟨vb, rfl, hvb, hb4⟩; have HVb := Lib.hid hvb; have HB4 := Lib.hid hb4; clear hvb hb4))
  have HB := Lib.hid ((HB2.out.trans (HB3.out.mono HB2.out.size)).trans (HB4.out.mono (Nat.le_trans HB2.out.size HB3.out.size)))
  have HVa4 := Lib.hid (RIntss.stable.up (RIntss.stable.up HVa.out HB3.out) HB4.out)
  have key : ∀ (fr : Act) (vx vy : Value), True := fun _ _ _ => trivial
  have HS := Lib.hid (fun vy (h : RIntss w4 (Lt w4.heap.size) vy res) => Same_any va vy res res w4 HVa4.out h)
  have Hn := Lib.hid (fun (vy : Value) => (RSl.nil_ RInts w4 (Lt w4.heap.size) : RIntss w4 (Lt w4.heap.size) (.slice none 0 0) []))
  have Hd : decide (res = res) = true := by simp
  clear HP HR HLs HC HVl HVa key
  have Hfin := Lib.hid (fun n => below_drewN HB.out n)
  rcases hway with ⟨rfl, rfl, rfl⟩ | ⟨rfl, hn, rfl, rfl⟩ | ⟨rfl, hn, rfl, rfl⟩
  · have HS2 := Lib.hid (HS.out _ HVb.out)
    cases hlb : lightB28 l with
    | true =>
      have HQa := Lib.hid (HQ.out hlb)
      have HQb := Lib.hid (HQ2.out hlb)
      rw [hlb] at HY
      clear hlb HQ HQ2 HS
      go_wp2_with (first
        | (go_at_call 12; refine HS2.out.mono ?_; rintro e w5 ⟨rfl, q, rfl⟩; rw [Hd]; have HB5 := Lib.hid (Hfin.out q))
        | (go_at_call 7; refine (HY.out _ _ (RIntss.stable.up HL.out HB5.out)).mono ?_; rintro e w6 ⟨rfl, rfl⟩)
        | (go_at_call 17; refine (HQa.out _ _ (RIntss.stable.up HL.out HB5.out)).mono ?_; rintro e w7 ⟨rfl, hb7⟩; have HB7 := Lib.hid (HB5.out.trans (hb7.mono HB5.out.size)); clear hb7)
        | (go_at_call 18; refine (HQb.out _ _ (RIntss.stable.up HL.out HB7.out)).mono ?_; rintro e w8 ⟨rfl, hb8⟩; have HB8 := Lib.hid (HB7.out.trans (hb8.mono HB7.out.size)); clear hb8)
        | (go_at_call 9; refine (HLi.out _ (HM.out.up HB8.out)).mono ?_; rintro e w9 ⟨rfl, hb9⟩; have HB9 := Lib.hid (HB8.out.trans (hb9.mono HB8.out.size)); clear hb9))
      go_ret
      exact ⟨rfl, HB9.out⟩
    | false =>
      rw [hlb] at HY
      clear hlb HQ HQ2 HS
      go_wp2_with (first
        | (go_at_call 12; refine HS2.out.mono ?_; rintro e w5 ⟨rfl, q, rfl⟩; rw [Hd]; have HB5 := Lib.hid (Hfin.out q))
        | (go_at_call 7; refine (HY.out _ _ (RIntss.stable.up HL.out HB5.out)).mono ?_; rintro e w6 ⟨rfl, rfl⟩)
        | (go_at_call 9; refine (HLi.out _ (HM.out.up HB5.out)).mono ?_; rintro e w9 ⟨rfl, hb9⟩; have HB9 := Lib.hid (HB5.out.trans (hb9.mono HB5.out.size)); clear hb9))
      go_ret
      exact ⟨rfl, HB9.out⟩
  · have HS2 := Lib.hid (HS.out _ (RSl.nil_ _ _ _))
    cases hlb : lightB28 l with
    | true =>
      have HQa := Lib.hid (HQ.out hlb)
      have HQb := Lib.hid (HQ2.out hlb)
      rw [hlb] at HY
      clear hlb HQ HQ2 HS
      go_wp2_with (first
        | (go_at_call 12; refine HS2.out.mono ?_; rintro e w5 ⟨rfl, q, rfl⟩; rw [Hd]; have HB5 := Lib.hid (Hfin.out q))
        | (go_at_call 7; refine (HY.out _ _ (RIntss.stable.up HL.out HB5.out)).mono ?_; rintro e w6 ⟨rfl, rfl⟩)
        | (go_at_call 17; refine (HQa.out _ _ (RIntss.stable.up HL.out HB5.out)).mono ?_; rintro e w7 ⟨rfl, hb7⟩; have HB7 := Lib.hid (HB5.out.trans (hb7.mono HB5.out.size)); clear hb7)
        | (go_at_call 18; refine (HQb.out _ _ (RIntss.stable.up HL.out HB7.out)).mono ?_; rintro e w8 ⟨rfl, hb8⟩; have HB8 := Lib.hid (HB7.out.trans (hb8.mono HB7.out.size)); clear hb8)
        | (go_at_call 9; refine (HLi.out _ (HM.out.up HB8.out)).mono ?_; rintro e w9 ⟨rfl, hb9⟩; have HB9 := Lib.hid (HB8.out.trans (hb9.mono HB8.out.size)); clear hb9))
      go_ret
      exact ⟨rfl, HB9.out⟩
    | false =>
      rw [hlb] at HY
      clear hlb HQ HQ2 HS
      go_wp2_with (first
        | (go_at_call 12; refine HS2.out.mono ?_; rintro e w5 ⟨rfl, q, rfl⟩; rw [Hd]; have HB5 := Lib.hid (Hfin.out q))
        | (go_at_call 7; refine (HY.out _ _ (RIntss.stable.up HL.out HB5.out)).mono ?_; rintro e w6 ⟨rfl, rfl⟩)
        | (go_at_call 9; refine (HLi.out _ (HM.out.up HB5.out)).mono ?_; rintro e w9 ⟨rfl, hb9⟩; have HB9 := Lib.hid (HB5.out.trans (hb9.mono HB5.out.size)); clear hb9))
      go_ret
      exact ⟨rfl, HB9.out⟩
  · have HS2 := Lib.hid (HS.out _ (RSl.nil_ _ _ _))
    cases hlb : lightB28 l with
    | true =>
      have HQa := Lib.hid (HQ.out hlb)
      have HQb := Lib.hid (HQ2.out hlb)
      rw [hlb] at HY
      clear hlb HQ HQ2 HS
      go_wp2_with (first
        | (go_at_call 12; refine HS2.out.mono ?_; rintro e w5 ⟨rfl, q, rfl⟩; rw [Hd]; have HB5 := Lib.hid (Hfin.out q))
        | (go_at_call 7; refine (HY.out _ _ (RIntss.stable.up HL.out HB5.out)).mono ?_; rintro e w6 ⟨rfl, rfl⟩)
        | (go_at_call 17; refine (HQa.out _ _ (RIntss.stable.up HL.out HB5.out)).mono ?_; rintro e w7 ⟨rfl, hb7⟩; have HB7 := Lib.hid (HB5.out.trans (hb7.mono HB5.out.size)); clear hb7)
        | (go_at_call 18; refine (HQb.out _ _ (RIntss.stable.up HL.out HB7.out)).mono ?_; rintro e w8 ⟨rfl, hb8⟩; have HB8 := Lib.hid (HB7.out.trans (hb8.mono HB7.out.size)); clear hb8)
        | (go_at_call 9; refine (HLi.out _ (HM.out.up HB8.out)).mono ?_; rintro e w9 ⟨rfl, hb9⟩; have HB9 := Lib.hid (HB8.out.trans (hb9.mono HB8.out.size)); clear hb9))
      go_ret
      exact ⟨rfl, HB9.out⟩
    | false =>
      rw [hlb] at HY
      clear hlb HQ HQ2 HS
      go_wp2_with (first
        | (go_at_call 12; refine HS2.out.mono ?_; rintro e w5 ⟨rfl, q, rfl⟩; rw [Hd]; have HB5 := Lib.hid (Hfin.out q))
        | (go_at_call 7; refine (HY.out _ _ (RIntss.stable.up HL.out HB5.out)).mono ?_; rintro e w6 ⟨rfl, rfl⟩)
        | (go_at_call 9; refine (HLi.out _ (HM.out.up HB5.out)).mono ?_; rintro e w9 ⟨rfl, hb9⟩; have HB9 := Lib.hid (HB5.out.trans (hb9.mono HB5.out.size)); clear hb9))
      go_ret
      exact ⟨rfl, HB9.out⟩
end Go.Proofs.YtgfbmidpiamkhaaDoor
