/- graph.Order; of graphs that may not be nothing is answered. -/
import Derived.Test.YtjmenkjmghmkpaaGrX2
import Derived.Test.YtjmenkjmghmkpaaGrO
import Derived.Test.YtjmenkjmghmkpaaFnIdx
namespace Go.Proofs.Ytjmenkjmghmkpaa
open Go.RowKit
open G22

set_option maxHeartbeats 400000 in
theorem Groups_no (s : Value) (g : List (List Int)) (w : World) {B : Nat} (hs : RIntss w (Lt B) s g) (hB : B ≤ w.heap.size) (h : mayG g = false) :
    Calls Try.prog 19 #[s] w fun e w' => e = .returned (.slice none 0 0) ∧ Below B w w' := by
  have HB := Lib.hid (below_alloc w (.cells #[s] 22))
  have Hs := Lib.hid (RIntss.stable.below hs (HB.out.mono hB))
  have Hm := Lib.hid h
  obtain ⟨A, c, rfl, hl, _⟩ := hs.open_
  clear h hs
  go_enter Try.func19, Try.ntmps19
  go_wp2_with (first
    | (go_at_call 12; refine (May_any _ _ _ Hs.out).mono ?_; rintro e w1 ⟨rfl, rfl⟩; rw [Hm.out]))
  go_ret
  exact ⟨rfl, HB.out.mono hB⟩
set_option maxHeartbeats 400000 in
theorem Order_no (s : Value) (g : List (List Int)) (w : World) {B : Nat} (hs : RIntss w (Lt B) s g) (h : mayG g = false) :
    Calls Try.prog 17 #[s] w fun e w' => e = .returned (.tuple #[.slice none 0 0, .bool false]) ∧ w = w' := by
  have Hs := Lib.hid hs
  have Hm := Lib.hid h
  clear h hs
  go_enter Try.func17, Try.ntmps17
  go_wp2_with (first
    | (go_at_call 12; refine (May_any _ _ _ Hs.out).mono ?_; rintro e w1 ⟨rfl, rfl⟩; rw [Hm.out]))
  go_ret2
  exact ⟨rfl, rfl⟩
def OrderPost (G : Gr) (w : World) (e : Ending) (w' : World) : Prop :=
  ∃ v L, Picks G (fun _ => False) L ∧ Below w.heap.size w w' ∧ ((L.all (okB G) = true ∧ e = .returned (.tuple #[v, .bool true]) ∧ RNats w' (Lt w'.heap.size) v (L.map hd)) ∨ (L.all (okB G) = false ∧ e = .returned (.tuple #[.slice none 0 0, .bool false])))
set_option maxRecDepth 100000 in
set_option maxHeartbeats 2000000 in
theorem Order_any (G : Gr) (w : World) (Ag0 : Option Addr) (cg : Nat) (hs : RNatss w (Lt w.heap.size) (.slice Ag0 G.length cg) G) (hG : okG G) (hlen : G.length ≤ 100000) (hr : ∀ a, (row G a).length ≤ 100000) :
    Calls Try.prog 17 #[.slice Ag0 G.length cg] w (OrderPost G w) := by
  have HG := Lib.hid hG
  have Hs := Lib.hid hs
  have Hgr := Lib.hid (Groups_any G w Ag0 cg hs hG hlen hr)
  clear hG hs hr
  go_enter Try.func17, Try.ntmps17
  go_wp2_with (first
    | (go_at_call 12; refine (May_any' G _ _ Hs.out HG.out).mono ?_; rintro e w1 ⟨rfl, rfl⟩)
    | (go_at_call 19; refine Hgr.out.mono ?_; rintro e w1 ⟨v, L, rfl, hv, hp, hb⟩; obtain ⟨A, c, rfl, hm, hat⟩ := hv.open_; have HV := Lib.hid hat; have HP := Lib.hid hp; have HB := Lib.hid hb; clear hat hp hb hv))
  have hLn := HP.out.length_le
  obtain ⟨Dz, hDz⟩ : ∃ Dz, Dz = w1.heap.size := ⟨_, rfl⟩
  have HDz := Lib.hid hDz
  rw [← hDz] at HV
  have hDz1 : w.heap.size ≤ Dz := by rw [hDz]; exact HB.out.size
  clear hDz Hgr
  go_loopw [12, 2] (fun sv v2 wr => ∃ k : Nat, k ≤ L.length ∧ sv = .int .i64 k ∧ Hid ((L.take k).all (okB G) = true) ∧ Hid (wr.ownsRow Dz 3 1 v2 k (nVs ((L.take k).map hd))) ∧ Hid (Below Dz w1 wr)) (fun sv _ _ => L.length - (intOf sv).toNat)
  case atStart => exact ⟨0, Nat.zero_le _, rfl, rfl, World.ownsRow_nil _ _ _ _, Below.refl _ _⟩
  case round =>
    obtain ⟨w2, rfl⟩ : ∃ w0 : World, w0 = wr := ⟨_, rfl⟩
    obtain ⟨k, hkle, rfl, Hall, Ho, HB2⟩ := hrel
    obtain ⟨A2, c2, rfl⟩ := own_shape Ho.out
    by_cases hklt : k < L.length
    · obtain ⟨hp0, hhl, hsc⟩ := HP.out.top.2 L[k] (List.getElem_mem hklt)
      obtain ⟨bL, oL, uL, rfl, hbL, hcL, huL⟩ := HV.out.at_ RNats.stable (ag_of_below HB2.out) hklt
      obtain ⟨Ak, ck, rfl, hmk, hatk⟩ := huL.open_
      obtain ⟨bk, ok, uk, rfl, hbk, hck, huk⟩ := hatk.at_ RNat.stable (Ag.refl _ _) hp0
      obtain rfl := huk
      have hck0 : w2.cell? ⟨bk, ok, none⟩ = some (.int .i64 (hd L[k] : Nat)) := by
        rw [show (⟨bk, ok, none⟩ : Addr) = ⟨bk, ok + 0, none⟩ from rfl, hck]
        simp [natV, hd, gN, List.getD, hp0]
      have HGw := Lib.hid (RNatss.stable.agree Hs.out (fun b (hb : b < w.heap.size) => (HB2.out.block b (by omega)).trans (HB.out.block b hb)))
      obtain ⟨_, _, eA, _, hatg⟩ := HGw.out.open_
      cases eA
      obtain ⟨bg, og, ug, rfl, hbg, hcg, hug⟩ := hatg.at_ RNats.stable (Ag.refl _ _) hhl
      obtain ⟨Ar, cr, rfl, hmr, hatr⟩ := hug.open_
      have hokB : okB G L[k] = (decide (L[k].length ≤ 1) && !leads G (hd L[k]) (hd L[k])) := rfl
      have Htk := Lib.hid (all_take_succ (okB G) L k hklt)
      have hLfalse : okB G L[k] = false → L.all (okB G) = false := fun h => all_at (k := k) (h := hklt) h
      have hrow : row G (hd L[k]) = G[hd L[k]] := row_at hhl
      rw [← hrow] at hug hcg
      have hug' := ints_of_nats hug
      obtain ⟨x, hx⟩ : ∃ x, x = hd L[k] := ⟨_, rfl⟩
      obtain ⟨q, hq⟩ : ∃ q, q = L[k].length := ⟨_, rfl⟩
      have hlead : leads G x x = hasB (ints (row G x)) (x : Int) := by
        unfold leads hasB
        rw [Bool.eq_iff_iff, List.contains_iff_mem, List.contains_iff_mem, List.mem_map]
        refine ⟨fun h => ⟨x, h, rfl⟩, fun ⟨a, h, e⟩ => ?_⟩
        have e' : a = x := by omega
        rw [e'] at h
        exact h
      have Hmap := Lib.hid (show (L.take (k + 1)).map hd = (L.take k).map hd ++ [hd L[k]] by rw [List.take_succ_eq_append_getElem hklt, List.map_append]; rfl)
      rw [← hx] at hck0 hcg hokB hug' hhl
      rw [← hx] at Hmap
      rw [← hq] at hokB hcL hp0
      rw [hlead] at hokB
      have Hc := Lib.hid (fun n => quiet_left (Contains_any (.slice Ar (row G x).length cr) (x : Int) (ints (row G x)) (w2.drewN n) (B := w.heap.size) hug'))
      have HokB := Lib.hid hokB
      have HLf := Lib.hid hLfalse
      have hq1 : (0 : Int) < (q : Int) := by omega
      clear hlead hokB hLfalse hug hug' hatr hatk hatg huL hsc hrow hq hx
      by_cases hq2 : 1 < q
      · have Hf := Lib.hid (HLf.out (by rw [HokB.out, decide_eq_false (by omega)]; rfl))
        have hdq : decide ((1 : Int) < (q : Int)) = true := by simp; omega
        go_wp2
        go_quiet (fail)
        go_wp2
        go_ret2
        exact ⟨.slice none 0 0, L, HP.out, HB.out.trans ((below_drewN HB2.out _).mono hDz1), .inr ⟨Hf.out, rfl⟩⟩
      · have hdq : decide ((1 : Int) < (q : Int)) = false := by simp; omega
        cases hb : hasB (ints (row G x)) (x : Int) with
        | true =>
          have Hf := Lib.hid (HLf.out (by rw [HokB.out, hb]; simp))
          rw [hb] at Hc
          clear hb
          go_wp2
          go_quiet ((go_at_call 32; exact Hc.out _))
          go_wp2
          go_ret2
          exact ⟨.slice none 0 0, L, HP.out, HB.out.trans ((below_drewN HB2.out _).mono hDz1), .inr ⟨Hf.out, rfl⟩⟩
        | false =>
          have Ht := Lib.hid (show okB G L[k] = true by rw [HokB.out, hb, decide_eq_true (by omega)]; rfl)
          rw [hb] at Hc
          clear hb
          go_wp2
          go_quiet ((go_at_call 32; exact Hc.out _))
          have Ho3 := Lib.hid (show (w2.drewN nq).ownsRow Dz 3 1 (.slice A2 k c2) k (nVs ((L.take k).map hd)) from Ho.out)
          have HB3 := Lib.hid (below_drewN HB2.out nq)
          have hck0' : (w2.drewN nq).cell? ⟨bk, ok, none⟩ = some (.int .i64 (x : Int)) := hck0
          have hz3 : Dz ≤ (w2.drewN nq).heap.size := by have := HB2.out.size; rw [← HDz.out] at this; exact this
          clear Ho HB2 hck0
          generalize w2.drewN nq = w3 at *
          go_wp2_with (at_builtin; refine wpList_push rfl _ _ _ rfl eInt (v := .slice A2 k c2) rfl (Ho3.out.alloc _) w3.heap.size (natV x) rfl (by simp [go_sem, natV]) rfl (by omega) (by simp; omega) ?_; intro v7 w7 hown7 hg7 hat7; have HB7 := Lib.hid ((HB3.out.alloc (by omega) (.cells #[natV x] 3)).grown hg7 (by simp; omega) (fun b hb => (Ho3.out.lt b hb).1)); have Hown7 := Lib.hid hown7; clear hown7 hg7 hat7)
          go_roundw
          case rel => exact ⟨k + 1, by omega, by go_num, by rw [Htk.out, Hall.out, Ht.out]; rfl, by rw [Hmap.out, nVs, List.map_append]; exact Hown7.out, HB7.out⟩
          case measure => simp [intOf]; omega
    · obtain rfl : k = L.length := by omega
      rw [List.take_length] at Hall Ho
      have hown := own_lt Ho.out
      go_wp2
      go_ret2
      exact ⟨_, L, HP.out, HB.out.trans (HB2.out.mono hDz1), .inl ⟨Hall.out, rfl, nats_of_own (by simpa using Ho.out) hown⟩⟩
end Go.Proofs.Ytjmenkjmghmkpaa
