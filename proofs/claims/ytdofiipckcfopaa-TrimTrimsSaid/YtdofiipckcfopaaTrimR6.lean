/- What the reference makes of clauses. -/
import Derived.Test.YtdofiipckcfopaaTrimR5
namespace Go.Proofs.Ytdofiipckcfopaa
open Go.RowKit

def RRun (v : Nat) (C : Cls) (w : World) (e : Ending) (w' : World) : Prop := ∃ g t, e = .returned (.pointer (some ⟨g, 0, none⟩)) ∧ w.heap.size ≤ g ∧ RunTo v (startS C) t ∧ Rk w' g t ∧ Below w.heap.size w w'
theorem copy_row {α : Type} {R : Rd α} (hR : Stable R) {w w' : World} {S : Nat → Prop} {l : List α} {xs : List Value} {t : TypeId} {v : Value} (hS : ∀ b, S b → b < w.heap.size)
    (hxr : ∀ j (hj : j < l.length) u, xs[j]? = some u → R w S u l[j]) (hb : Below w.heap.size w w') (ho : w'.ownsRow w.heap.size t 1 v l.length xs) : RSl R w' (Lt w'.heap.size) v l :=
  reads_of_own ho rfl (fun b hb' => (ho.lt b hb').2) fun k hk u hu => hR _ _ _ _ _ _ (hxr k hk u hu) (fun b hb' => hb.block b (hS b hb')) fun b hb' => Nat.lt_of_lt_of_le (hS b hb') hb.size
theorem rk_new {w : World} {C : Cls} {v : Value} (h : RIntss w (Lt w.heap.size) v C) : RkAt (w.alloc (.cells #[v, .slice none 0 0, .slice none 0 0, .bool false] 39)) w.heap.size C [] [] false v (.slice none 0 0) (.slice none 0 0) := by
  refine ⟨heap_alloc_new _ _, World.ownsRow_nil _ _ _ _, World.ownsRow_nil _ _ _ _, ?_, fun b hb => by cases hb⟩
  refine RIntss.stable _ _ _ _ _ _ h (fun b hb => Below.heap_alloc _ _ _ hb) fun b hb => ?_
  have hb' : b < w.heap.size := hb
  exact ⟨by simp; omega, by omega, by simp [Value.ownBlock], by simp [Value.ownBlock]⟩
set_option maxRecDepth 100000 in
set_option maxHeartbeats 1000000 in
theorem Run_any (v : Nat) (s : Value) (C : Cls) (w : World) (hs : RIntss w (Lt w.heap.size) s C) (hok : clsOk v C) (hv : v ≤ 1024) (hn : C.length ≤ 16384) :
    Calls Try.prog 12 #[s, .int .i64 (v : Nat)] w (RRun v C w) := by
  obtain ⟨A, c, rfl, hm, hat⟩ := hs.open_
  obtain ⟨xs, hxl, hxr, hxa⟩ := cells_named hs
  have Hxr := Lib.hid hxr
  have Hx1 : Hid (∀ u ∈ xs, u.oneCell' = true) := fun u hu => by
    obtain ⟨j, hj, rfl⟩ := List.getElem_of_mem hu
    exact one_slice (hxr j (by omega) _ (List.getElem?_eq_getElem hj))
  have Hown0 := Lib.hid (World.ownsRow_lit (e := 27) (base := w.heap.size) (size := 1) w #[] 0 (Nat.le_refl _) (by unfold maxLen; omega) (by rfl))
  have Hxa := Lib.hid hxa
  clear hat hxr hxa hs
  cases A with
  | none =>
    have hC : C = [] := by
      rcases Nat.eq_zero_or_pos C.length with h | h
      · exact List.length_eq_zero_iff.1 h
      · obtain ⟨_, _, e, _⟩ := Hxa.out h; cases e
    subst hC
    obtain rfl : xs = [] := List.length_eq_zero_iff.1 hxl
    go_enter Try.func12, Try.ntmps12
    go_wp2
    have e9 : (w.alloc (.cells #[] 27)).heap.size = w.heap.size + 1 := by simp
    have hb9 := below_alloc w (.cells #[] 27)
    have hk := (rk_new (C := []) (copy_row (l := []) RInts.stable (S := Lt w.heap.size) (fun b hb => hb) Hxr.out hb9 Hown0.out)).rk
    rw [e9] at hk
    have Hbx := Lib.hid (hb9.alloc hb9.size (.cells #[.slice (some ⟨w.heap.size, 0, none⟩) 0 0, .slice none 0 0, .slice none 0 0, .bool false] 39))
    have HRk := Lib.hid (show Rk _ (w.heap.size + 1) (startS []) from hk)
    clear e9 hb9 hk Hown0 Hx1 Hxr Hxa
    generalize (w.alloc (.cells #[] 27)).alloc (.cells #[.slice (some ⟨w.heap.size, 0, none⟩) 0 0, .slice none 0 0, .slice none 0 0, .bool false] 39) = wx at *
    go_loopg [] (sizeS (startS [])) (fun gk wr => ∃ t : TrS, Hid (Steps v (startS []) t ∧ gk = sizeS t) ∧ Hid (Rk wr (w.heap.size + 1) t ∧ Below w.heap.size w wr))
    case atStart => exact ⟨startS [], ⟨.refl _, rfl⟩, HRk.out, Hbx.out⟩
    case round =>
      obtain ⟨t, hinv, hw2⟩ := hrel
      have hce : wr.cell? ⟨(w.heap.size + 1), 3, none⟩ = some (.bool t.E) := by obtain ⟨_, _, _, h⟩ := hw2.out.1; exact h.cell.2.2.2
      have Hokt := Lib.hid (hinv.out.1.ok (startOk hok))
      have hcl : t.C.length ≤ 1000000 := by have := Hokt.out.2.1; omega
      have hfl : t.F.length ≤ 1000000 := by have := Hokt.out.2.1; omega
      have hul : t.U.length ≤ 1000000 := by have := Hokt.out.2.2; omega
      cases hE : t.E with
      | true =>
        rw [hE] at hce
        have HE := Lib.hid hE
        clear hE
        go_wp2
        go_ret
        exact ⟨_, t, rfl, by omega, ⟨hinv.out.1, .inl HE.out⟩, hw2.out.1, hw2.out.2⟩
      | false =>
        rw [hE] at hce
        have HE := Lib.hid hE
        clear hE
        cases hst : stepS v t with
        | some u =>
          have Hst := Lib.hid hst
          clear hst
          go_wp2_with (go_at_call 22
                       refine (rstep_any v (w.heap.size + 1) t _ hw2.out.1 Hokt.out.1 hv hcl hfl hul).mono ?_
                       rintro e w6 h6
                       rw [RStep, Hst.out] at h6
                       obtain ⟨rfl, hrk6, hb6⟩ := h6
                       have Hrk6 := Lib.hid hrk6
                       have Hb6 := Lib.hid (hw2.out.2.trans (hb6.mono (by omega)))
                       clear hrk6 hb6)
          go_roundg (sizeS u)
          case rel => exact ⟨u, ⟨hinv.out.1.snoc HE.out Hst.out, rfl⟩, Hrk6.out, Hb6.out⟩
          case measure => have h1 := hinv.out.2; have h2 := (way_of Hst.out).less HE.out; omega
        | none =>
          have Hst := Lib.hid hst
          clear hst
          go_wp2_with (go_at_call 22
                       refine (rstep_any v (w.heap.size + 1) t _ hw2.out.1 Hokt.out.1 hv hcl hfl hul).mono ?_
                       rintro e w6 h6
                       rw [RStep, Hst.out] at h6
                       obtain ⟨rfl, hrk6, hb6⟩ := h6
                       have Hrk6 := Lib.hid hrk6
                       have Hb6 := Lib.hid (hw2.out.2.trans (hb6.mono (by omega)))
                       clear hrk6 hb6)
          go_ret
          exact ⟨_, t, rfl, by omega, ⟨hinv.out.1, .inr Hst.out⟩, Hrk6.out, Hb6.out⟩
  | some ad =>
    have Had : Hid (∀ j u, xs[j]? = some u → (w.alloc (.cells #[] 27)).cell? (ad.add j) = some u) := fun j u hu => by
      have hj := (List.getElem?_eq_some_iff.1 hu).1
      obtain ⟨b, off, e, hb, hc⟩ := Hxa.out (by omega)
      cases e
      have hb' : b < w.heap.size := hb
      rw [add_none, World.cell?_alloc_lt _ _ _ hb']
      exact hc j u hu
    go_enter Try.func12, Try.ntmps12
    go_wp2_with (at_builtin
                 go_must (refine wpList_append_m rfl _ _ _ rfl eRow (v := .slice (some ⟨w.heap.size, 0, none⟩) 0 0) rfl Hown0.out ad C.length c xs rfl hxl Had.out Hx1.out (by omega) (by simp) ?_)
                 intro v9 w9 ho9 hg9 hat9
                 rw [Nat.zero_add, List.nil_append] at ho9
                 have Hb9 := Lib.hid ((below_alloc w (.cells #[] 27)).grown hg9 (by simp) (fun i hi => by cases hi; exact Nat.le_refl _))
                 have Hk := Lib.hid (rk_new (copy_row RInts.stable (S := Lt w.heap.size) (fun b hb => hb) Hxr.out Hb9.out ho9))
                 obtain ⟨A9, k9, rfl⟩ := own_shape ho9
                 clear ho9 hg9 hat9)
    have Hbx := Lib.hid (Hb9.out.alloc Hb9.out.size (.cells #[.slice A9 C.length k9, .slice none 0 0, .slice none 0 0, .bool false] 39))
    have HRk := Lib.hid (show Rk _ w9.heap.size (startS C) from Hk.out.rk)
    have hsz := Hb9.out.size
    clear Hk Had Hown0 Hx1 Hxr Hxa
    generalize w9.alloc (.cells #[.slice A9 C.length k9, .slice none 0 0, .slice none 0 0, .bool false] 39) = wx at *
    go_loopg [] (sizeS (startS C)) (fun gk wr => ∃ t : TrS, Hid (Steps v (startS C) t ∧ gk = sizeS t) ∧ Hid (Rk wr w9.heap.size t ∧ Below w.heap.size w wr))
    case atStart => exact ⟨startS C, ⟨.refl _, rfl⟩, HRk.out, Hbx.out⟩
    case round =>
      obtain ⟨t, hinv, hw2⟩ := hrel
      have hce : wr.cell? ⟨w9.heap.size, 3, none⟩ = some (.bool t.E) := by obtain ⟨_, _, _, h⟩ := hw2.out.1; exact h.cell.2.2.2
      have Hokt := Lib.hid (hinv.out.1.ok (startOk hok))
      have hcl : t.C.length ≤ 1000000 := by have := Hokt.out.2.1; omega
      have hfl : t.F.length ≤ 1000000 := by have := Hokt.out.2.1; omega
      have hul : t.U.length ≤ 1000000 := by have := Hokt.out.2.2; omega
      cases hE : t.E with
      | true =>
        rw [hE] at hce
        have HE := Lib.hid hE
        clear hE
        go_wp2
        go_ret
        exact ⟨_, t, rfl, hsz, ⟨hinv.out.1, .inl HE.out⟩, hw2.out.1, hw2.out.2⟩
      | false =>
        rw [hE] at hce
        have HE := Lib.hid hE
        clear hE
        cases hst : stepS v t with
        | some u =>
          have Hst := Lib.hid hst
          clear hst
          go_wp2_with (go_at_call 22
                       refine (rstep_any v w9.heap.size t _ hw2.out.1 Hokt.out.1 hv hcl hfl hul).mono ?_
                       rintro e w6 h6
                       rw [RStep, Hst.out] at h6
                       obtain ⟨rfl, hrk6, hb6⟩ := h6
                       have Hrk6 := Lib.hid hrk6
                       have Hb6 := Lib.hid (hw2.out.2.trans (hb6.mono hsz))
                       clear hrk6 hb6)
          go_roundg (sizeS u)
          case rel => exact ⟨u, ⟨hinv.out.1.snoc HE.out Hst.out, rfl⟩, Hrk6.out, Hb6.out⟩
          case measure => have h1 := hinv.out.2; have h2 := (way_of Hst.out).less HE.out; omega
        | none =>
          have Hst := Lib.hid hst
          clear hst
          go_wp2_with (go_at_call 22
                       refine (rstep_any v w9.heap.size t _ hw2.out.1 Hokt.out.1 hv hcl hfl hul).mono ?_
                       rintro e w6 h6
                       rw [RStep, Hst.out] at h6
                       obtain ⟨rfl, hrk6, hb6⟩ := h6
                       have Hrk6 := Lib.hid hrk6
                       have Hb6 := Lib.hid (hw2.out.2.trans (hb6.mono hsz))
                       clear hrk6 hb6)
          go_ret
          exact ⟨_, t, rfl, hsz, ⟨hinv.out.1, .inr Hst.out⟩, Hrk6.out, Hb6.out⟩
end Go.Proofs.Ytdofiipckcfopaa
