/- What the steps of the layer trim compute: drop, twice, always, empty, fix, unit, covered. -/
import Derived.Test.YtdofiipckcfopaaTrimW1
import Derived.Deep.RegionLawGrows
namespace Go.Proofs.Ytdofiipckcfopaa
open Go.RowKit

def WPost (X : Nat → Prop) (g vars : Nat) (s : TrS) (v : Value) (w : World) (e : Ending) (w' : World) : Prop := e = .returned v ∧ Ch (fun b => ¬ X b) w w' ∧ Wk w' X g vars s
theorem slices_one {w : World} {C : Cls} {cs : List Value} {S : Nat → Prop} (hl : cs.length = C.length) (cl : ∀ i (h : i < C.length) u, cs[i]? = some u → RInts w S u C[i]) : ∀ x ∈ cs, x.oneCell' = true := by
  intro x hx
  obtain ⟨i, hi, rfl⟩ := List.getElem_of_mem hx
  obtain ⟨A, c, e, _⟩ := cl i (by omega) _ (List.getElem?_eq_getElem hi)
  rw [e]; rfl

set_option maxHeartbeats 1000000 in
theorem drop_any (X : Nat → Prop) (g vars i : Nat) (s : TrS) (w : World) (hw : Wk w X g vars s) (hi : i < s.C.length) (hn : s.C.length ≤ 1000000) :
    Calls Try.prog 57 #[.pointer (some ⟨g, 0, none⟩), .int .i64 i] w (WPost X g vars { s with C := s.C.eraseIdx i } (.tuple #[]) w) := by
  obtain ⟨vC, vF, vU, cs, h⟩ := hw
  obtain ⟨gC, cap, rfl⟩ := h.shapeC (by omega)
  obtain ⟨_, hc1, _, _, _⟩ := h.cell
  have H := Lib.hid h
  have Ho := Lib.hid (slices_one h.csl h.cl)
  clear h
  go_enter Try.func57, Try.ntmps57
  go_wp2_with (
    go_at_call 76
    refine (Delete_any gC cap s.C.length i (g + 1) cs _ H.out.oC Ho.out hi hn).mono ?_
    rintro e w1 ⟨rfl, hown1, hg1⟩
    have hb1 := H.out.midg hg1 (fun e => by cases e; have := H.out.gne.1 g rfl; omega)
    have hd1 : w1.cell? ⟨g, 1, none⟩ = some (.slice (some ⟨gC, 0, none⟩) s.C.length cap) := (by rw [cell_of_row _ _ 1 _ _ _ hb1]; rfl)
    have hf1 : w1.frozen? ⟨g, 1, none⟩ = false := frozen_of_row w1 g 1 _ _ hb1
    clear hb1)
  go_end0
  refine ⟨rfl, ?_, ⟨_, _, _, _, H.out.drop hi hown1 hg1⟩⟩
  exact ((ch_grown hg1).imp fun b _ e => H.out.xs b (.inr (.inl e))).trans ((ch_set w1 g 1 _).imp fun b _ e => H.out.xs b (.inl e))

theorem RSl.recap {α : Type} {R : Rd α} {w : World} {S : Nat → Prop} {A : Option Addr} {n c c' : Nat} {l : List α} (h : RSl R w S (.slice A n c) l) (h1 : n ≤ c') (h2 : c' ≤ maxLen) : RSl R w S (.slice A n c') l := by
  obtain ⟨A', c2, e, g1, g2, g3⟩ := h
  cases e
  exact ⟨A, c', rfl, h1, h2, g3⟩
theorem grown_cell {w w' : World} (h : w.grownBy w' none) {b : Nat} (hb : b < w.heap.size) (o : Nat) : w'.cell? ⟨b, o, none⟩ = w.cell? ⟨b, o, none⟩ ∧ w'.frozen? ⟨b, o, none⟩ = w.frozen? ⟨b, o, none⟩ :=
  ⟨World.cell?_of_block (w := w) (h.block b hb (by simp)), World.frozen?_of_block (w := w) (h.block b hb (by simp))⟩
def setC (s : TrS) (o : Option Cls) : TrS := match o with | some C => { s with C := C } | none => s
def CPost (X : Nat → Prop) (g vars : Nat) (s : TrS) (o : Option Cls) (w : World) (e : Ending) (w' : World) : Prop := e = .returned (.bool o.isSome) ∧ Ch (fun b => ¬ X b) w w' ∧ Wk w' X g vars (setC s o)
theorem drop_cons_reads {w : World} {S : Nat → Prop} {A : Option Addr} {n c k : Nat} {l : List Int} (h : RInts w S (.slice A n c) l) (hk : k < n) : ∃ b off, A = some ⟨b, off, none⟩ ∧ ∀ j u, ((l.drop (k + 1)).map (Value.int .i64))[j]? = some u → w.cell? ⟨b, off + (k + 1) + j, none⟩ = some u := by
  obtain ⟨A', c', e, h1, h2, h3⟩ := h
  cases e
  obtain ⟨b, off, rfl, _, hc⟩ := h3 (by omega)
  refine ⟨b, off, rfl, fun j u hu => ?_⟩
  rw [List.getElem?_map, List.getElem?_drop] at hu
  cases hx : l[k + 1 + j]? with
  | none => rw [hx] at hu; simp at hu
  | some x =>
    obtain ⟨hj, hx'⟩ := List.getElem?_eq_some_iff.1 hx
    rw [hx] at hu
    obtain ⟨u', hu', hr⟩ := hc (k + 1 + j) hj
    rw [show off + (k + 1) + j = off + (k + 1 + j) by omega, hu', hr, hx']
    simpa using hu
set_option maxRecDepth 100000 in
set_option maxHeartbeats 4000000 in
theorem twice_any (X : Nat → Prop) (g vars : Nat) (s : TrS) (w : World) (hw : Wk w X g vars s) (hok : clsOk vars s.C) :
    Calls Try.prog 37 #[.pointer (some ⟨g, 0, none⟩)] w (CPost X g vars s (twiceC s.C) w) := by
  have Hw := Lib.hid hw
  obtain ⟨vC, vF, vU, cs, h⟩ := hw
  obtain ⟨_, hc1, _, _, _⟩ := h.cell
  obtain ⟨A, c, rfl, hm, hat⟩ := h.reads.open_
  have Hat := Lib.hid hat
  have H := Lib.hid h
  clear h hat
  go_enter Try.func37, Try.ntmps37
  go_wp2
  go_loop [11] (fun sv => ∃ k : Nat, k ≤ (s.C).length ∧ sv = .int .i64 k ∧ Hid (firstN (twAt s.C) k = none)) (fun sv => (s.C).length - (intOf sv).toNat)
  case atStart => exact ⟨0, Nat.zero_le _, rfl, hid_first _⟩
  case round =>
    obtain ⟨k, hkle, rfl, hkinv⟩ := hrel
    by_cases hklt : k < (s.C).length
    · obtain ⟨bk, offk, uk, rfl, hbk, hcellk, huk⟩ := Hat.out.lt_ hklt
      have Hu := Lib.hid huk
      obtain ⟨A2, c2, rfl, hm2, hat2⟩ := huk.open_
      clear hat2
      cases hd : dupK s.C[k] with
      | none =>
        have Hk := Lib.hid (show firstN (twAt s.C) (k + 1) = none from firstN_go hkinv.out (by rw [twAt, atC_eq hklt, hd]))
        have Hd := Lib.hid (show optI (dupK s.C[k]) = -1 by rw [hd]; rfl); clear hd
        go_wp2_with (go_at_call 54; refine (trimAt_any _ s.C[k] _ Hu.out).mono ?_; rintro e w1 ⟨rfl, rfl⟩; rw [Hd.out])
        go_round
        case rel => exact ⟨k + 1, by omega, by go_num, Hk⟩
        case measure => simp [intOf]; omega
      | some q =>
        have Hk := Lib.hid (show twiceC s.C = some (s.C.set k (s.C[k].eraseIdx q)) from firstN_hit hkinv.out (by rw [twAt, atC_eq hklt, hd]) hklt)
        have Hd := Lib.hid (show optI (dupK s.C[k]) = (q : Int) by rw [hd]; rfl)
        have hq := (dupK_some hd).1
        have hlen2 := (hok _ (List.getElem_mem hklt)).1
        clear hd
        go_wp2_with (go_at_call 54; refine (trimAt_any _ s.C[k] _ Hu.out).mono ?_; rintro e w1 ⟨rfl, rfl⟩; rw [Hd.out])
        obtain ⟨gC, cap, hA⟩ := H.out.shapeC (by omega)
        simp only [Value.slice.injEq, Option.some.injEq, Addr.mk.injEq, and_true, true_and] at hA
        obtain ⟨⟨rfl, rfl⟩, rfl⟩ := hA
        have hfz := (own_at H.out.oC k).2
        have hci : cs[k]? = some (.slice A2 s.C[k].length c2) := by
          have h1 := (own_at H.out.oC k).1 hklt
          rw [Nat.zero_add] at hcellk
          exact h1.symm.trans hcellk
        have hin := H.out.cl k hklt _ hci
        obtain ⟨b2, off2, rfl, hsrc0⟩ := drop_cons_reads hin hq
        have hq2 : s.C[k].length ≤ c2 := hin.cap_
        have hgl := H.out.lt
        have hck : w.cell? ⟨bk, k, none⟩ = some (.slice (some ⟨b2, off2, none⟩) s.C[k].length c2) := by rw [Nat.zero_add] at hcellk; exact hcellk
        have Hin := Lib.hid hin
        have Htk := Lib.hid (hin.take_ (k := q) (by omega))
        clear hin hci
        obtain ⟨news, hnews⟩ : ∃ news, news = (s.C[k].drop (q + 1)).map (Value.int .i64) := ⟨_, rfl⟩
        rw [← hnews] at hsrc0
        have hnl : news.length = s.C[k].length - (q + 1) := by rw [hnews]; simp
        obtain ⟨Aq, hAq, hsrc⟩ : ∃ Aq : Addr, (if c2 = q + 1 then some (⟨b2, off2, none⟩ : Addr) else some ⟨b2, off2 + (q + 1), none⟩) = some Aq ∧ Hid (∀ t u, news[t]? = some u → w.drew.cell? (Aq.add t) = some u) := by
          by_cases h : c2 = q + 1
          · refine ⟨⟨b2, off2, none⟩, by simp [h], fun t u hu => ?_⟩
            have := (List.getElem?_eq_some_iff.1 hu).1
            omega
          · exact ⟨⟨b2, off2 + (q + 1), none⟩, by simp [h], fun t u hu => by rw [add_none]; exact hsrc0 t u hu⟩
        have s1 : Hid (news.length = (s.C[k].length - (q + 1)) * 1) := by rw [Hid, Nat.mul_one]; exact hnl
        have s2 : Hid (∀ u ∈ news, u.oneCell' = true) := by
          intro u hu
          rw [hnews] at hu
          obtain ⟨x, _, rfl⟩ := List.mem_map.1 hu
          rfl
        have Hnews := Lib.hid hnews
        have s4 : Hid (∀ b, (some ⟨b2, off2, none⟩ : Option Addr) = some b → ∀ j u, ((s.C[k].take q).map (Value.int .i64))[j]? = some u → w.drew.cell? (b.add j) = some u) := by
          intro b hb j u hu
          cases hb
          obtain ⟨_, _, e, _, _, hr⟩ := Htk.out
          simp only [Value.slice.injEq] at e
          obtain ⟨rfl, _, rfl⟩ := e
          exact rat_cells (f := Value.int .i64) (fun _ _ _ _ h => h) hr j u hu
        have hqi : (q : Int) + 1 ≤ (s.C[k].length : Int) := by omega
        have hq0 : (0 : Int) ≤ (q : Int) + 1 := by omega
        have hq3 : q + 1 ≤ c2 := by omega
        have hqc : q ≤ c2 := by omega
        have hwr : IntKind.i64.wrap ((q : Int) + 1) = (q : Int) + 1 := IntWalk.i64_in _ (by omega)
        have mixed : Try.prog.follows Departure.mixedOrders = true := by kernel_rfl
        obtain ⟨i0, hi0, hz0, hz1, hzz⟩ := info_parts (P := Try.prog) (e := 3) (z := .int .i64 0) (size := 1) (bytes := 8) (by kernel_rfl)
        clear hnews hnl hsrc0
        by_cases hm0 : q + 1 = s.C[k].length
        · have hmm : s.C[k].length - (q + 1) = 0 := by omega
          have hnn : news = [] := by have := s1.out; rw [hmm] at this; exact List.length_eq_zero_iff.1 (by omega)
          subst hnn
          have Hl := Lib.hid (show s.C[k].eraseIdx q = s.C[k].take q by rw [List.eraseIdx_eq_take_drop_succ, List.drop_of_length_le (by omega), List.append_nil])
          have Hmm := Lib.hid hmm
          clear hm0 hmm
          go_region_law (refine step_append_room rfl (.tmp 28) (.tmp 32) 27 rfl 3 i0 1 Try.underlying27 hi0 hz1 b2 off2 q q (by simp [Act.eval, Act.put]) Aq (s.C[k].length - (q + 1)) (c2 - (q + 1)) [] (by simp [Act.eval, Act.put]) s1.out hsrc.out s2.out (by rw [Hmm.out]; omega) (fun j hj => absurd hj (by simp)) ?_; rw [show World.setCells (World.drew w) b2 (off2 + q * 1) [] = World.drew w from rfl])
          all_goals
            go_wp2
            go_ret
            refine ⟨by rw [Hk.out]; rfl, ?_⟩
            rw [Hk.out]
            have hrd : RInts w (inW w g (.slice (some ⟨bk, 0, none⟩) s.C.length c) vF vU) (.slice (some ⟨b2, off2, none⟩) (q + (s.C[k].length - (q + 1))) q) (s.C[k].eraseIdx q) := by
              rw [Hl.out, Hmm.out]
              exact RSl.recap Htk.out (Nat.le_refl _) (by unfold maxLen; omega)
            exact ⟨((ch_set w bk k _).imp fun i _ e => H.out.xs i (.inr (.inl (by rw [e]; rfl)))).trans ⟨rfl, rfl, rfl, Nat.le_refl _, fun _ _ _ => rfl⟩, _, _, _, _, (H.out.store hrd).keep ⟨rfl, rfl, rfl, Nat.le_refl _, fun _ _ => rfl⟩⟩
        · go_region_law (
              (refine step_append_grows rfl (.tmp 28) (.tmp 32) 27 rfl 3 i0 (.int .i64 0) 1 8 Try.underlying27 hi0 hz0 hz1 hzz rfl (by omega) (some ⟨b2, off2, none⟩) q q ((s.C[k].take q).map (Value.int .i64)) (by simp [Act.eval, Act.put]) (by simp) (by simp; omega) s4.out Aq (s.C[k].length - (q + 1)) (c2 - (q + 1)) news (by simp [Act.eval, Act.put]) s1.out hsrc.out s2.out (by omega) (by unfold maxLen; omega) (by omega) ?_
               intro v1 w3 hown1 hg1
               obtain ⟨A1, c1, rfl⟩ := own_shape hown1
               have hc3 : w3.cell? ⟨bk, k, none⟩ = some (.slice (some ⟨b2, off2, none⟩) s.C[k].length c2) := ((grown_cell hg1 hbk k).1.trans hck)
               have hg3 : w3.cell? ⟨g, 1, none⟩ = some (.slice (some ⟨bk, 0, none⟩) s.C.length c) := ((grown_cell hg1 hgl 1).1.trans hc1)
               have hf3 : w3.frozen? ⟨bk, k, none⟩ = false := ((grown_cell hg1 hbk k).2.trans hfz)))
          all_goals
            go_wp2
            go_ret
            refine ⟨by rw [Hk.out]; rfl, ?_⟩
            rw [Hk.out]
            have hb3 : Below w.heap.size w w3 := ⟨hg1.os, hg1.tape, hg1.output, hg1.size, fun i hi => hg1.block i hi (by simp)⟩
            have h3 := H.out.keep hb3
            have hl : s.C[k].eraseIdx q = s.C[k].take q ++ s.C[k].drop (q + 1) := List.eraseIdx_eq_take_drop_succ _ _
            have hown2 : w3.ownsRow w.heap.size 3 1 (.slice A1 (q + (s.C[k].length - (q + 1))) c1) (s.C[k].eraseIdx q).length ((s.C[k].eraseIdx q).map (Value.int .i64)) := by
              rw [show (s.C[k].eraseIdx q).length = q + (s.C[k].length - (q + 1)) by rw [hl]; simp; omega, hl, List.map_append, ← Hnews.out]
              exact hown1
            have hrd := ints_of_own (S := inW w3 g (.slice (some ⟨bk, 0, none⟩) s.C.length c) vF vU) hown2 fun b hb => by
              have h1 := hown2.lt b hb
              refine ⟨by omega, h1.2, fun e => ?_, fun e => ?_, fun e => ?_⟩
              · have := H.out.ltC.1 b e.symm; omega
              · have := H.out.ltC.2.1 b e.symm; omega
              · have := H.out.ltC.2.2 b e.symm; omega
            exact ⟨(ch_new hb3 _).trans ((ch_set w3 bk k _).imp fun i _ e => h3.xs i (.inr (.inl (by rw [e]; rfl)))), _, _, _, _, h3.store hrd⟩
    · obtain rfl : k = (s.C).length := by omega
      have Hk := Lib.hid (show twiceC s.C = none from hkinv.out)
      go_wp2
      go_ret
      rw [Hk.out]
      exact ⟨rfl, Ch.refl _ _, Hw.out⟩
end Go.Proofs.Ytdofiipckcfopaa
