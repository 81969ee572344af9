/- The law's example: lives. -/
import Derived.Test.YtjmenkjmghmkpaaGrX3
import Derived.Test.YtjmenkjmghmkpaaGrL
import Derived.Test.YtjmenkjmghmkpaaGrW4
import Derived.Test.YtjmenkjmghmkpaaGrW10
import Derived.Test.YtjmenkjmghmkpaaGrW2
namespace Go.Proofs.Ytjmenkjmghmkpaa
open Go.RowKit
open G22

theorem nats_block {W : World} {S : Nat → Prop} {b n : Nat} {l : List Nat} (h : VBlk W b 3 (nVs l)) (hS : S b) (hl : l.length = n) (hn : n ≤ 1000000) : RNats W S (.slice (some ⟨b, 0, none⟩) n n) l := by
  subst hl
  refine ⟨some ⟨b, 0, none⟩, _, rfl, Nat.le_refl _, by unfold maxLen; omega, fun hp => ⟨b, 0, rfl, hS, fun k hk => ⟨_, ?_, rfl⟩⟩⟩
  rw [Nat.zero_add, h.cell (i := k) (u := natV l[k]) (by simp [hk])]
theorem g0_reads {w w1 : World} {b : Nat} (hb : w.heap.size = b) (hw : w1 = (((w.alloc (.cells #[.int .i64 1] 3)).alloc (.cells #[.int .i64 2] 3)).alloc (.cells #[.int .i64 1, .int .i64 3] 3)).alloc (.cells #[.slice (some ⟨b, 0, none⟩) 1 1, .slice (some ⟨b + 1, 0, none⟩) 1 1, .slice (some ⟨b + 1 + 1, 0, none⟩) 2 2, .slice none 0 0] 25)) :
    RNatss w1 (Lt w1.heap.size) (.slice (some ⟨b + 1 + 1 + 1, 0, none⟩) 4 4) G0 := by
  have hs : w1.heap.size = b + 4 := by rw [hw]; simp [hb]
  have v0 : VBlk w1 b 3 (nVs [1]) := by
    rw [hw, ← hb]
    exact (((vblk_new w 3 #[.int .i64 1]).alloc _).alloc _).alloc _
  have v1 : VBlk w1 (b + 1) 3 (nVs [2]) := by
    rw [hw]
    have := vblk_new (w.alloc (.cells #[.int .i64 1] 3)) 3 #[.int .i64 2]
    rw [World.size_alloc, hb] at this
    exact (this.alloc _).alloc _
  have v2 : VBlk w1 (b + 1 + 1) 3 (nVs [1, 3]) := by
    rw [hw]
    have := vblk_new ((w.alloc (.cells #[.int .i64 1] 3)).alloc (.cells #[.int .i64 2] 3)) 3 #[.int .i64 1, .int .i64 3]
    rw [World.size_alloc, World.size_alloc, hb] at this
    exact this.alloc _
  have v3 : VBlk w1 (b + 1 + 1 + 1) 25 [.slice (some ⟨b, 0, none⟩) 1 1, .slice (some ⟨b + 1, 0, none⟩) 1 1, .slice (some ⟨b + 1 + 1, 0, none⟩) 2 2, .slice none 0 0] := by
    rw [hw]
    have := vblk_new (((w.alloc (.cells #[.int .i64 1] 3)).alloc (.cells #[.int .i64 2] 3)).alloc (.cells #[.int .i64 1, .int .i64 3] 3)) 25 #[.slice (some ⟨b, 0, none⟩) 1 1, .slice (some ⟨b + 1, 0, none⟩) 1 1, .slice (some ⟨b + 1 + 1, 0, none⟩) 2 2, .slice none 0 0]
    rw [World.size_alloc, World.size_alloc, World.size_alloc, hb] at this
    exact this
  refine rows_block v3 (by show _ < w1.heap.size; omega) rfl (by omega) rfl fun i hi u hu => ?_
  have hi' : i < 4 := hi
  match i, hi' with
  | 0, _ => cases hu; exact nats_block v0 (by show _ < w1.heap.size; omega) rfl (by omega)
  | 1, _ => cases hu; exact nats_block v1 (by show _ < w1.heap.size; omega) rfl (by omega)
  | 2, _ => cases hu; exact nats_block v2 (by show _ < w1.heap.size; omega) rfl (by omega)
  | 3, _ => cases hu; exact RSl.nil_ _ _ _
theorem l0_cells {w : World} {S : Nat → Prop} {v : Value} (h : RNatss w S v [[0], [1, 2], [3]]) : ∃ bL oL c A1 c1 b2 o2 c2, v = .slice (some ⟨bL, oL, none⟩) 3 c ∧ w.cell? ⟨bL, oL + 1, none⟩ = some (.slice A1 2 c1) ∧ w.cell? ⟨bL, oL + 2, none⟩ = some (.slice (some ⟨b2, o2, none⟩) 1 c2) ∧ w.cell? ⟨b2, o2, none⟩ = some (.int .i64 3) ∧ S bL ∧ S b2 := by
  obtain ⟨A, c, rfl, _, hat⟩ := h.open_
  obtain ⟨bL, oL, u1, rfl, hS, h1, hu1⟩ := hat.at_ RNats.stable (Ag.refl _ _) (k := 1) (by decide)
  obtain ⟨_, _, u2, e, _, h2, hu2⟩ := hat.at_ RNats.stable (Ag.refl _ _) (k := 2) (by decide)
  cases e
  obtain ⟨A1, c1, rfl, _, _⟩ := hu1.open_
  obtain ⟨A2, c2, rfl, _, hat2⟩ := hu2.open_
  obtain ⟨b2, o2, u3, rfl, hS2, h3, hu3⟩ := hat2.at_ RNat.stable (Ag.refl _ _) (k := 0) (by decide)
  obtain rfl := hu3
  exact ⟨bL, oL, c, A1, c1, b2, o2, c2, rfl, h1, h2, h3, hS, hS2⟩
theorem same_true {s t : Value} {l : List Nat} {w : World} {S1 S2 : Nat → Prop} (hs : RNats w S1 s l) (ht : RNats w S2 t l) : Calls Try.prog 22 #[s, t] w fun e w' => e = .returned (.bool true) ∧ ∃ n, w' = w.drewN n := by
  have := same_any s t (ints l) (ints l) w (ints_of_nats hs) (ints_of_nats ht)
  rwa [decide_eq_true rfl] at this
def Ret (v : Value) (w : World) (e : Ending) (w' : World) : Prop := e = .returned v ∧ Below w.heap.size w w'
set_option maxRecDepth 100000 in
set_option maxHeartbeats 2000000 in
theorem lives_any (w : World) : Calls Try.prog 11 #[] w (Ret (.bool true) w) := by
  obtain ⟨b, hb⟩ : ∃ b, b = w.heap.size := ⟨_, rfl⟩
  have Hg := Lib.hid (g0_reads hb.symm rfl)
  have HB := Lib.hid (((((Below.refl w.heap.size w).alloc (Nat.le_refl _) (.cells #[.int .i64 1] 3)).alloc (by simp) (.cells #[.int .i64 2] 3)).alloc (by simp; omega) (.cells #[.int .i64 1, .int .i64 3] 3)).alloc (by simp; omega) (.cells #[.slice (some ⟨b, 0, none⟩) 1 1, .slice (some ⟨b + 1, 0, none⟩) 1 1, .slice (some ⟨b + 1 + 1, 0, none⟩) 2 2, .slice none 0 0] 25))
  have Hb := Lib.hid hb
  obtain ⟨w1, hw1⟩ : ∃ w1, w1 = ((((w.alloc (.cells #[.int .i64 1] 3)).alloc (.cells #[.int .i64 2] 3)).alloc (.cells #[.int .i64 1, .int .i64 3] 3)).alloc (.cells #[.slice (some ⟨b, 0, none⟩) 1 1, .slice (some ⟨b + 1, 0, none⟩) 1 1, .slice (some ⟨b + 1 + 1, 0, none⟩) 2 2, .slice none 0 0] 25)) := ⟨_, rfl⟩
  rw [← hw1] at Hg HB
  have Hw1 := Lib.hid (hw1.trans (by rw [hb] : _ = ((((w.alloc (.cells #[.int .i64 1] 3)).alloc (.cells #[.int .i64 2] 3)).alloc (.cells #[.int .i64 1, .int .i64 3] 3)).alloc (.cells #[.slice (some ⟨w.heap.size, 0, none⟩) 1 1, .slice (some ⟨w.heap.size + 1, 0, none⟩) 1 1, .slice (some ⟨w.heap.size + 1 + 1, 0, none⟩) 2 2, .slice none 0 0] 25))))
  clear hw1
  go_enter Try.func11, Try.ntmps11
  go_wp2_with (first
    | (go_at_call 19
       rw [← Hw1.out]
       refine (Groups_any G0 w1 _ 4 (by rw [← Hb.out]; exact Hg.out) G0_ok (by decide) G0_row).mono ?_
       rintro e w2 ⟨vL, L, rfl, hv, hp, hb2⟩
       obtain rfl := hp.unique G0_picks
       obtain ⟨bL, oL, cL, A1, c1, b2, o2, c2, rfl, k1, k2, k3, kS, kS2⟩ := l0_cells hv
       have Hk := Lib.hid (And.intro k1 (And.intro k2 (And.intro k3 (And.intro kS kS2))))
       have Hg2 := Lib.hid (RNatss.stable.up Hg.out hb2)
       have HB2 := Lib.hid (HB.out.trans (hb2.mono HB.out.size))
       rw [Hb.out] at Hg2
       clear k1 k2 k3 kS kS2 hv hp hb2)
    | (go_at_call 17
       refine (Order_any G0 w2 _ 4 Hg2.out G0_ok (by decide) G0_row).mono ?_
       rintro e w3 ⟨v3, L3, hp3, hb3, ho3⟩
       obtain rfl := hp3.unique G0_picks
       rw [G0_order] at ho3
       rcases ho3 with ⟨hx, _⟩ | ⟨_, rfl⟩
       · cases hx
       have Hg3 := Lib.hid (RNatss.stable.up Hg2.out hb3)
       have HB3 := Lib.hid (HB2.out.trans (hb3.mono HB2.out.size))
       have HB23 := Lib.hid hb3
       clear hp3 hb3)
    | (go_at_call 14
       refine (Reach_any _ G0 0 w3 Hg3.out G0_ok (by decide) (by decide)).mono ?_
       rintro e w4 ⟨d4, v4, hd4, rfl, hv4, hb4⟩
       rw [G0_depth (by omega) hd4] at hv4
       obtain ⟨A4, c4, rfl, _, _⟩ := hv4.open_
       have hl4 : (reachL (R0.getD 0 [])).length = 4 := by decide
       rw [hl4]
       have Hg4 := Lib.hid (RNatss.stable.up Hg3.out hb4)
       have HB4 := Lib.hid (HB3.out.trans (hb4.mono HB3.out.size))
       have hx24 : Below w2.heap.size w2 w4 := HB23.out.trans (hb4.mono HB23.out.size)
       have k1 := (hx24.cell (p := ⟨bL, oL + 1, none⟩) Hk.out.2.2.2.1).trans Hk.out.1
       have k2 := (hx24.cell (p := ⟨bL, oL + 2, none⟩) Hk.out.2.2.2.1).trans Hk.out.2.1
       have k3 := (hx24.cell (p := ⟨b2, o2, none⟩) Hk.out.2.2.2.2).trans Hk.out.2.2.1
       clear hd4 hv4 hb4 hx24 hl4)
    | (go_at_call 20
       go_loud (refine (Cycle_any _ G0 w4 Hg4.out G0_ok (by decide) G0_row).mono ?_)
       go_loud (rintro e w5 ⟨v5, rfl, hv5, hb5⟩)
       go_loud (rw [G0_cycle] at hv5)
       go_loud (have Hg5 := Lib.hid (RNatss.stable.up Hg4.out hb5))
       go_loud (have HB5 := Lib.hid (HB4.out.trans (hb5.mono HB4.out.size)))
       go_loud (have Hv5 := Lib.hid (RNats.stable.up hv5 (below_alloc w5 (.cells #[.int .i64 1, .int .i64 2] 3))))
       go_loud (have Hn5 := Lib.hid (nats_block (S := Lt (w5.alloc (.cells #[.int .i64 1, .int .i64 2] 3)).heap.size) (n := 2) (l := [1, 2]) (vblk_new w5 3 #[.int .i64 1, .int .i64 2]) (by show _ < _; simp) rfl (by omega)))
       have Hs5 := Lib.hid (same_true Hv5.out Hn5.out)
       go_loud (have Hg6 := Lib.hid (RNatss.stable.up Hg5.out (below_alloc w5 (.cells #[.int .i64 1, .int .i64 2] 3))))
       go_loud (have HB6 := Lib.hid (HB5.out.alloc HB5.out.size (.cells #[.int .i64 1, .int .i64 2] 3)))
       go_loud (clear hv5 hb5))
    | (go_at_call 22
       with_reducible refine Hs5.out.mono ?_
       rintro e w6 ⟨rfl, n6, rfl⟩
       have Hg7 := Lib.hid (show RNatss ((w5.alloc (.cells #[.int .i64 1, .int .i64 2] 3)).drewN n6) (Lt ((w5.alloc (.cells #[.int .i64 1, .int .i64 2] 3)).drewN n6).heap.size) _ G0 from RNatss.stable.agree Hg6.out (fun _ _ => rfl))
       have HB7 := Lib.hid (below_drewN HB6.out n6))
    | (go_at_call 16
       refine (Path_any _ G0 0 3 _ Hg7.out G0_ok (by decide) (by decide) (by decide) G0_row).mono ?_
       rintro e w8 ⟨d8, v8, hd8, rfl, hv8, hb8⟩
       rw [G0_path hd8] at hv8
       have HB8 := Lib.hid (HB7.out.trans (hb8.mono HB7.out.size))
       have Hv8 := Lib.hid (RNats.stable.up hv8 (below_alloc w8 (.cells #[.int .i64 0, .int .i64 1, .int .i64 2, .int .i64 3] 3)))
       have Hn8 := Lib.hid (nats_block (S := Lt (w8.alloc (.cells #[.int .i64 0, .int .i64 1, .int .i64 2, .int .i64 3] 3)).heap.size) (n := 4) (l := [0, 1, 2, 3]) (vblk_new w8 3 #[.int .i64 0, .int .i64 1, .int .i64 2, .int .i64 3]) (by show _ < _; simp) rfl (by omega))
       have Hs8 := Lib.hid (same_true Hv8.out Hn8.out)
       have HB9 := Lib.hid (HB8.out.alloc HB8.out.size (.cells #[.int .i64 0, .int .i64 1, .int .i64 2, .int .i64 3] 3))
       clear hv8 hb8 hd8)
    | (go_at_call 22
       with_reducible refine Hs8.out.mono ?_
       rintro e w9 ⟨rfl, n9, rfl⟩
       have HB10 := Lib.hid (below_drewN HB9.out n9)))
  go_ret
  exact ⟨rfl, HB10.out⟩
end Go.Proofs.Ytjmenkjmghmkpaa
