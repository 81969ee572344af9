/- What Trim makes of a question. -/
import Derived.Test.YtdofiipckcfopaaTrimW7
import Derived.Test.YtdofiipckcfopaaFnSatMay
import Derived.Deep.RegionHeld3
namespace Go.Proofs.Ytdofiipckcfopaa
open Go.RowKit

theorem WkAt.pushC {w w' : World} {X : Nat → Prop} {g vars : Nat} {C : Cls} {F U : List Int} {E : Bool} {vC vF vU v1 u : Value} {cs : List Value} {c : List Int} (h : WkAt w X g vars C F U E vC vF vU cs)
    (o1 : w'.ownsRow (g + 1) 27 1 v1 (C.length + 1) (cs ++ [u])) (hg1 : w.grownBy w' vC.ownBlock) (hat : v1.ownBlock = vC.ownBlock ∨ v1.ownBlock = some w.heap.size) (hr : RInts w (inW w g vC vF vU) u c) :
    WkAt (w'.setCell ⟨g, 1, none⟩ v1) X g vars (C ++ [c]) F U E v1 vF vU (cs ++ [u]) := by
  have hne : ∀ {t sz v n xs}, w'.ownsRow (g + 1) t sz v n xs → ∀ i, v.ownBlock = some i → ¬ i = g := fun ho i hi e => by have := (ho.lt i hi).1; omega
  have hch := (ch_grown hg1).imp (D' := FP g vC vF vU) fun i _ e => .inr (.inl e)
  have hch2 := hch.trans ((ch_set w' g 1 v1).imp (D' := FP g vC vF vU) fun i _ e => .inl e)
  have hn := newOr_app hat (Nat.le_refl _)
  have hmid := h.midg hg1 fun e => by have := h.gne.1 g e; omega
  have h1 := (ch_grown hg1).own h.oF (fun i hi e => h.aCF i e.symm hi)
  have h2 := (ch_grown hg1).own h.oU (fun i hi e => h.aCU i e.symm hi)
  refine h.to hch2 (by rw [heap_setCell_same w' g 1 _ _ v1 hmid]; rfl) ?_ ((ch_set w' g 1 v1).own h1 (hne h1)) ((ch_set w' g 1 v1).own h2 (hne h2)) (fun i hi x hx => ?_) hn (.refl _ _) (.refl _ _) (h.aCF.new hn h.ltC.2.1) (h.aCU.new hn h.ltC.2.2) h.aFU
  · rw [List.length_append]; exact (ch_set w' g 1 v1).own o1 (hne o1)
  · have hcl := h.csl
    rcases Nat.lt_or_ge i C.length with hlt | hge
    · rw [List.getElem_append_left hlt]
      rw [List.getElem?_append_left (by omega)] at hx
      exact inner_up hch2 (fun _ _ x => x) hn (.refl _ _) (.refl _ _) (h.cl i hlt x hx)
    · obtain rfl : i = C.length := by simp at hi; omega
      rw [List.getElem?_append_right (by omega), hcl, Nat.sub_self] at hx
      cases hx
      rw [List.getElem_append_right (by omega)]
      simp only [Nat.sub_self, List.getElem_cons_zero]
      exact inner_up hch2 (fun _ _ x => x) hn (.refl _ _) (.refl _ _) hr
theorem RSl.shape {α : Type} {R : Rd α} {w : World} {S : Nat → Prop} {v : Value} {l : List α} (h : RSl R w S v l) : ∃ A c, v = .slice A l.length c := by
  obtain ⟨A, c, hv, _⟩ := h; exact ⟨A, c, hv⟩
def startS (C : Cls) : TrS := ⟨C, [], [], false⟩
def StartPost (v : Nat) (C : Cls) (w : World) (e : Ending) (w' : World) : Prop :=
  ∃ g t, e = .returned (.pointer (some ⟨g, 0, none⟩)) ∧ w.heap.size ≤ g ∧ RunTo v (startS C) t ∧ Wk w' (Lt g) g v t ∧ Below w.heap.size w w'
theorem startOk {v : Nat} {C : Cls} (h : clsOk v C) : TrOk v C.length (startS C) := ⟨h, by simp [startS], by simp [startS]⟩
set_option maxRecDepth 100000 in
set_option maxHeartbeats 4000000 in
theorem start_any (v : Nat) (s : Value) (C : Cls) (w : World) (hs : RIntss w (Lt w.heap.size) s C) (hok : clsOk v C) (hv : v ≤ 1024) (hn : C.length ≤ 16384) :
    Calls Try.prog 20 #[.agg #[.int .i64 (v : Int), s]] w (StartPost v C w) := by
  have Hs := Lib.hid hs
  obtain ⟨A, c, rfl, hm, hat⟩ := hs.open_
  clear hat hs
  go_enter Try.func20, Try.ntmps20
  go_wp2
  obtain ⟨w0, hw0⟩ : ∃ w0, w0 = (w.alloc (.cells #[.int .i64 (v : Int), .slice A C.length c] 24)).alloc (.cells #[.int .i64 (v : Int), .slice none 0 0, .slice none 0 0, .slice none 0 0, .bool false] 59) := ⟨_, rfl⟩
  have hb0 : Below w.heap.size w w0 := by rw [hw0]; exact ((below_alloc _ _).alloc (by simp) _)
  have hz0 : w0.heap.size = w.heap.size + 1 + 1 := by rw [hw0]; simp
  have hk0 : WkAt w0 (Lt (w.heap.size + 1)) (w.heap.size + 1) v [] [] [] false (.slice none 0 0) (.slice none 0 0) (.slice none 0 0) [] := by
    exact ⟨(by rw [hw0]; exact heap_new (by simp)), World.ownsRow_nil _ _ _ _, World.ownsRow_nil _ _ _ _, World.ownsRow_nil _ _ _ _, (fun i hi => absurd hi (by simp)), (fun b hb => (by cases hb)), (fun b hb => (by cases hb)), (fun b hb => (by cases hb)), (fun h : _ < _ => by omega), (fun b hb => (by cases hb)), (fun b hb => (by cases hb)), (fun b hb => (by cases hb)), (fun b hb => (by have : b < w.heap.size + 1 := hb; omega)), (fun b hb => hb)⟩
  have Hb0 := Lib.hid hb0
  rw [← hw0]
  clear hw0 hb0
  have hz0' : w.heap.size + 1 < w0.heap.size := by omega
  clear hz0
  obtain ⟨i0, hi0, hz0, hz1, hzz⟩ := info_parts (P := Try.prog) (e := 27) (z := .slice none 0 0) (size := 1) (bytes := 24) (by kernel_rfl)
  go_loopw [13] (fun sv wr => ∃ k : Nat, k ≤ C.length ∧ sv = .int .i64 k ∧ Hid (Ch (fun b => ¬ Lt (w.heap.size + 1) b) w0 wr ∧ Wk wr (Lt (w.heap.size + 1)) (w.heap.size + 1) v (startS (C.take k)))) (fun sv _ => C.length - (intOf sv).toNat)
  case atStart => exact ⟨0, Nat.zero_le _, rfl, Ch.refl _ _, ⟨_, _, _, _, hk0⟩⟩
  case round =>
    obtain ⟨k, hkle, rfl, hkinv⟩ := hrel
    obtain ⟨hch, vC, vF, vU, cs, hk⟩ := hkinv.out
    have HK := Lib.hid hk
    have Hch := Lib.hid hch
    have Hbw := Lib.hid (Hb0.out.trans (hch.below (B := w.heap.size) (fun i hi => by have : ¬ i < w.heap.size + 1 := hi; omega) (by omega)))
    clear hch hk hkinv
    by_cases hklt : k < C.length
    · obtain ⟨A', c', e', _, hat⟩ := (RIntss.stable.up Hs.out Hbw.out).open_
      simp only [Value.slice.injEq] at e'
      obtain ⟨rfl, _, rfl⟩ := e'
      obtain ⟨bk, offk, uk, rfl, hbk, hcellk, huk⟩ := hat.lt_ hklt
      have Huk := Lib.hid huk
      obtain ⟨A2, c2, rfl, hm2, hat2⟩ := huk.open_
      have hlen2 := (hok _ (List.getElem_mem hklt)).1
      obtain ⟨_, hc1, _, _, _⟩ := HK.out.cell
      have hgl := HK.out.lt
      have hne := HK.out.gne.1
      obtain ⟨AC, kC, hvC⟩ := own_shape HK.out.oC
      have hlk : (startS (C.take k)).C.length = k := by simp [startS]; omega
      rw [hlk] at hvC
      subst hvC
      have Ho := Lib.hid (show wr.ownsRow (w.heap.size + 1 + 1) 27 1 (.slice AC k kC) k cs by have := HK.out.oC; rw [hlk] at this; exact this)
      have Hne := Lib.hid hne
      have Hlk := Lib.hid hlk
      clear hat huk hat2 hne hlk
      go_wp2_with fail
      go_region_law (first
          | (go_simp
             go_at_call 27
             refine (Clone_any _ C[k] _ (RInts.stable.up Huk.out (below_drewN (Below.refl _ _) 1)) (by omega)).mono ?_
             rintro e w3 ⟨v3, rfl, ho3, hb3⟩
             obtain ⟨A3, k3, rfl⟩ := own_shape ho3
             have Ho3 := Lib.hid ho3
             have HK3 := Lib.hid ((HK.out.keep (below_drewN (Below.refl _ _) 1)).keep hb3)
             have hd1 : w3.cell? ⟨w.heap.size + 1, 1, none⟩ = some (.slice AC k kC) := HK3.out.cell.2.1
             have hgl3 : w.heap.size + 1 < w3.heap.size := HK3.out.lt
             have Hb3 := Lib.hid ((below_drewN (Below.refl wr.heap.size wr) 1).trans hb3)
             clear ho3 hb3)
          | (have HK4 := Lib.hid (HK3.out.keep (below_alloc w3 (.cells #[.slice A3 C[k].length k3] 27)))
             have ho4 := HK4.out.oC
             rw [Hlk.out] at ho4
             refine step_append_lies _ (by rfl) _ _ _ (by rfl) (w.heap.size + 1 + 1) 27 i0 (.slice none 0 0) 1 24 Try.underlying22 hi0 hz0 hz1 hzz rfl (by omega) (.slice AC k kC) k cs (by rfl) ho4 ⟨w3.heap.size, 0, none⟩ 1 1 [.slice A3 C[k].length k3] (by rfl) (by rfl) (World.news_of_block (cs := #[.slice A3 C[k].length k3]) (t := 27) (fr := (0, 0)) (heap_alloc_new w3 _)) (by simp [Value.oneCell']) (by omega) (by unfold maxLen; omega) (by omega) (by have := HK3.out.lt; simp; omega) _ rfl ?_
             intro gF cF w5 hown1 hg1 hat1 hlt1
             have hb5 := HK4.out.midg hg1 (fun e => by have := HK4.out.gne.1 _ e; omega)
             have hd5 : w5.cell? ⟨w.heap.size + 1, 1, none⟩ = some (.slice AC k kC) := (by rw [cell_of_row _ _ 1 _ _ _ hb5]; rfl)
             have hf5 : w5.frozen? ⟨w.heap.size + 1, 1, none⟩ = false := frozen_of_row w5 _ 1 _ _ hb5
             clear hb5))
      all_goals
        have hat : (Value.slice (some ⟨gF, 0, none⟩) (k + 1) cF).ownBlock = (Value.slice AC k kC).ownBlock ∨ (Value.slice (some ⟨gF, 0, none⟩) (k + 1) cF).ownBlock = some (w3.alloc (.cells #[.slice A3 C[k].length k3] 27)).heap.size := by
          rcases hat1 with h | h
          · exact .inl h.symm
          · exact .inr (by rw [h]; rfl)
        have hrd : RInts (w3.alloc (.cells #[.slice A3 C[k].length k3] 27)) (inW (w3.alloc (.cells #[.slice A3 C[k].length k3] 27)) (w.heap.size + 1) (.slice AC k kC) vF vU) (.slice A3 C[k].length k3) C[k] := by
          refine RInts.stable _ _ _ _ _ _ (ints_of_own (S := fun b => wr.heap.size ≤ b ∧ b < w3.heap.size) Ho3.out fun b hb => ⟨(Ho3.out.lt b hb).1, (Ho3.out.lt b hb).2⟩) (fun b hb => Below.heap_alloc _ _ _ hb.2) fun b hb => ⟨by omega, by simp; omega, fun e => ?_, fun e => ?_, fun e => ?_⟩
          · have := HK.out.ltC.1 b e.symm; omega
          · have := HK.out.ltC.2.1 b e.symm; omega
          · have := HK.out.ltC.2.2 b e.symm; omega
        have hp := HK4.out.pushC (v1 := .slice (some ⟨gF, 0, none⟩) (k + 1) cF) (by rw [Hlk.out]; exact hown1) hg1 hat hrd
        have hts : (startS (C.take k)).C ++ [C[k]] = (startS (C.take (k + 1))).C := by simp [startS]
        rw [hts] at hp
        have Hp := Lib.hid hp
        have Hchn := Lib.hid (Hch.out.trans ((ch_refl' Hb3.out).trans ((ch_refl' (below_alloc w3 (.cells #[.slice A3 C[k].length k3] 27))).trans (((ch_grown hg1).imp fun i _ e => HK4.out.xs i (.inr (.inl e))).trans ((ch_set w5 (w.heap.size + 1) 1 (.slice (some ⟨gF, 0, none⟩) (k + 1) cF)).imp fun i _ e => HK4.out.xs i (.inl e))))))
        clear hp hts hrd hat
        go_wp2
        go_roundw
        case rel => exact ⟨k + 1, by omega, by go_num, Hchn.out, _, _, _, _, Hp.out⟩
        case measure => simp [intOf]; omega
    · obtain rfl : k = C.length := by omega
      rw [List.take_length] at HK
      go_wp2_with (go_at_call 28; refine (run_any (Lt (w.heap.size + 1)) (w.heap.size + 1) v C.length (startS C) _ HK.out.wk (startOk hok) hv (by omega) rfl).mono ?_; rintro e w5 ⟨rfl, t, hrun, hch5, hwk5⟩)
      go_ret
      exact ⟨_, t, rfl, by omega, hrun, hwk5, Hbw.out.trans (hch5.below (fun i hi => by have : ¬ i < w.heap.size + 1 := hi; omega) (Hbw.out.size))⟩

/-- What lies behind block g. -/
abbrev Over (g : Nat) (w : World) : Nat → Prop := fun b => g < b ∧ b < w.heap.size
theorem WkAt.readsC {w : World} {X : Nat → Prop} {g vars : Nat} {C : Cls} {F U : List Int} {E : Bool} {vC vF vU : Value} {cs : List Value} (h : WkAt w X g vars C F U E vC vF vU cs) : RIntss w (Over g w) vC C :=
  reads_of_own h.oC rfl (fun b hb => ⟨h.gne.1 b hb, (h.oC.lt b hb).2⟩) fun i hi u hu => RInts.stable.sub (h.cl i hi u hu) fun b hb => ⟨hb.1, hb.2.1⟩
theorem WkAt.readsF {w : World} {X : Nat → Prop} {g vars : Nat} {C : Cls} {F U : List Int} {E : Bool} {vC vF vU : Value} {cs : List Value} (h : WkAt w X g vars C F U E vC vF vU cs) : RInts w (Over g w) vF F :=
  ints_of_own h.oF fun b hb => ⟨h.gne.2.1 b hb, (h.oF.lt b hb).2⟩
theorem WkAt.readsU {w : World} {X : Nat → Prop} {g vars : Nat} {C : Cls} {F U : List Int} {E : Bool} {vC vF vU : Value} {cs : List Value} (h : WkAt w X g vars C F U E vC vF vU cs) : RInts w (Over g w) vU U :=
  ints_of_own h.oU fun b hb => ⟨h.gne.2.2 b hb, (h.oU.lt b hb).2⟩
theorem Stable.over {α : Type} {R : Rd α} (hs : Stable R) {w w' : World} {g : Nat} {v : Value} {x : α} (h : R w (Over g w) v x) (hb : Below w.heap.size w w') : R w' (Over g w') v x :=
  hs _ _ _ _ _ _ h (fun b hb' => hb.block b hb'.2) fun b hb' => ⟨hb'.1, Nat.lt_of_lt_of_le hb'.2 hb.size⟩
theorem Stable.wide {α : Type} {R : Rd α} (hs : Stable R) {w : World} {g : Nat} {v : Value} {x : α} (h : R w (Over g w) v x) : R w (Lt w.heap.size) v x := hs.sub h fun _ hb => hb.2
/-- A store at a block that lies before. -/
theorem Stable.overSet {α : Type} {R : Rd α} (hs : Stable R) {w : World} {g b o : Nat} {u v : Value} {x : α} (h : R w (Over g w) v x) (hb : b ≤ g) : R (w.setCell ⟨b, o, none⟩ u) (Over g (w.setCell ⟨b, o, none⟩ u)) v x :=
  hs _ _ _ _ _ _ h (fun i hi => Below.heap_setCell _ _ _ _ (by have := hi.1; simp; omega)) fun i hi => ⟨hi.1, by simpa using hi.2⟩
def cells3 (v : Nat) (vC vF : Value) : Value := .agg #[.int .i64 (v : Int), vC, vF]
set_option maxRecDepth 100000 in
set_option maxHeartbeats 1000000 in
theorem trimmed_any (g v : Nat) (t : TrS) (w : World) (hw : Wk w (Lt g) g v t) :
    Calls Try.prog 21 #[.pointer (some ⟨g, 0, none⟩)] w fun e w' => ∃ vC vF, e = .returned (cells3 v vC vF) ∧ RIntss w' (Over g w') vC t.C ∧ RInts w' (Over g w') vF t.F ∧ Below w.heap.size w w' := by
  obtain ⟨vC, vF, vU, cs, h⟩ := hw
  obtain ⟨hc0, hc1, hc2, hc3, hc4⟩ := h.cell
  obtain ⟨A, c, rfl, hm, hat⟩ := h.reads.open_
  obtain ⟨AF, kF, rfl⟩ := own_shape h.oF
  have hgl := h.lt
  have Hr := Lib.hid h.readsC
  have Hf := Lib.hid h.readsF
  clear h hat
  go_enter Try.func21, Try.ntmps21
  go_wp2_with fail
  have hgn : ¬ g = w.heap.size := by omega
  go_region_held3 (fun w' => w'.cell? ⟨g, 0, none⟩ = some (.int .i64 (v : Int)) ∧ w'.cell? ⟨g, 1, none⟩ = some (.slice A t.C.length c) ∧ w'.cell? ⟨g, 2, none⟩ = some (.slice AF t.F.length kF)) (first | go_keep) (fail)
  go_wp2
  have hb : Below w.heap.size w ((w.alloc (.cells #[.int .i64 (v : Int), .slice A t.C.length c, .slice AF t.F.length kF] 29)).drew) := below_drewN (below_alloc _ _) 1
  refine bodyPost_ret (v := cells3 v (.slice A t.C.length c) (.slice AF t.F.length kF)) (by simp [cells3, results, Try.results21, go_sem]) rfl ⟨_, _, rfl, RIntss.stable.over Hr.out hb, RInts.stable.over Hf.out hb, hb⟩
/-- What Trim answers. -/
def TrimPost (v : Int) (C : Cls) (w : World) (e : Ending) (w' : World) : Prop :=
  (satMayN v C ≠ 0 ∧ e = .returned (.tuple #[cells3 0 (.slice none 0 0) (.slice none 0 0), .int .i64 (satMayN v C : Nat)]) ∧ Below w.heap.size w w') ∨
  (satMayN v C = 0 ∧ ∃ (n : Nat) (t : TrS) (vC vF : Value), v = n ∧ n ≤ 1024 ∧ clsOk n C ∧ RunTo n (startS C) t ∧ e = .returned (.tuple #[cells3 n vC vF, .int .i64 0]) ∧ RIntss w' (Lt w'.heap.size) vC t.C ∧ RInts w' (Lt w'.heap.size) vF t.F ∧ Below w.heap.size w w')
theorem satMay_ok {v : Int} {C : Cls} (h : satMayN v C = 0) : 0 ≤ v ∧ v ≤ 1024 ∧ C.length ≤ 16384 ∧ clsOk v.toNat C := by
  by_cases h1 : 1024 < v ∨ 16384 < C.length
  · simp [satMayN, h1] at h
  cases h2 : C.any (fun c => decide (2048 < c.length)) with
  | true => simp [satMayN, h1, h2] at h
  | false =>
  by_cases h3 : v < 0
  · simp [satMayN, h1, h2, h3] at h
  cases h4 : C.any (fun c => c.any (badLit v)) with
  | true => simp [satMayN, h1, h2, h3, h4] at h
  | false =>
  refine ⟨by omega, by omega, by omega, fun c hc => ⟨?_, fun x hx => ?_⟩⟩
  · have := List.any_eq_false.1 h2 c hc
    simpa using this
  · have h5 : c.any (badLit v) = false := by simpa using List.any_eq_false.1 h4 c hc
    have := List.any_eq_false.1 h5 x hx
    simp [badLit] at this
    unfold litOk
    omega
set_option maxRecDepth 100000 in
set_option maxHeartbeats 1000000 in
theorem Trim_any (v : Int) (s : Value) (C : Cls) (w : World) (hs : RIntss w (Lt w.heap.size) s C) :
    Calls Try.prog 10 #[.agg #[.int .i64 v, s]] w (TrimPost v C w) := by
  have Hs := Lib.hid hs
  obtain ⟨A, c, rfl⟩ : ∃ A c, s = .slice A C.length c := by obtain ⟨A, c, h, _⟩ := hs; exact ⟨A, c, h⟩
  clear hs
  have Hm := Lib.hid (satMay_any v (.slice A C.length c) C)
  by_cases hz : satMayN v C = 0
  · obtain ⟨h0, h1, h2, h3⟩ := satMay_ok hz
    obtain ⟨n, rfl⟩ := Int.eq_ofNat_of_zero_le h0
    rw [Int.toNat_natCast] at h3
    have Hz := Lib.hid hz
    have hn : n ≤ 1024 := by omega
    clear hz h0 h1
    go_enter Try.func10, Try.ntmps10
    go_wp2_with (first
      | (go_at_call 19
         refine (Hm.out _ (RIntss.stable.up Hs.out ((below_alloc _ _).alloc (by simp) _))).mono ?_
         rintro e w1 ⟨rfl, hb1⟩
         rw [Hz.out]
         obtain ⟨hc, hf⟩ := bcell hb1
         have hz1 : w.heap.size + 1 < w1.heap.size := (by have := hb1.size; simp at this; omega)
         have Hb1 := Lib.hid (((below_alloc w _).alloc (by simp) _).trans (hb1.mono (by simp; omega)))
         clear hb1)
      | (go_at_call 20
         refine (start_any n _ C _ (RIntss.stable.up Hs.out Hb1.out) h3 hn h2).mono ?_
         rintro e w2 ⟨g, t, rfl, hg, hrun, hwk, hb2⟩
         obtain ⟨hc2, hf2⟩ := bcell hb2
         have hz2 : w.heap.size + 1 < w2.heap.size := Nat.lt_of_lt_of_le hz1 hb2.size
         have Hrun := Lib.hid hrun
         have Hwk := Lib.hid hwk
         have Hb2 := Lib.hid (Hb1.out.trans (hb2.mono Hb1.out.size))
         clear hrun hwk hb2)
      | (go_at_call 21
         refine (trimmed_any g n t _ Hwk.out).mono ?_
         rintro e w3 ⟨vC, vF, rfl, hrC, hrF, hb3⟩
         obtain ⟨hc3, hf3⟩ := bcell hb3
         have hz3 : w.heap.size + 1 < w3.heap.size := Nat.lt_of_lt_of_le hz2 hb3.size
         obtain ⟨AC, kC, rfl⟩ := hrC.shape
         obtain ⟨AF, kF, rfl⟩ := hrF.shape
         have HrC := Lib.hid hrC
         have HrF := Lib.hid hrF
         have Hb3 := Lib.hid (Hb2.out.trans (hb3.mono Hb2.out.size))
         clear hrC hrF hb3
         unfold cells3))
    refine bodyPost_ret (v := .tuple #[cells3 n (.slice AC t.C.length kC) (.slice AF t.F.length kF), .int .i64 0]) (by simp [cells3, results, Try.results10, go_sem, hc, hc2, hc3, hz1, hz2]) rfl (.inr ⟨Hz.out, n, t, _, _, rfl, hn, h3, Hrun.out, rfl, ?_, ?_, ?_⟩)
    · exact RIntss.stable.wide (RIntss.stable.overSet (RIntss.stable.overSet (RIntss.stable.overSet HrC.out (by omega)) (by omega)) (by omega))
    · exact RInts.stable.wide (RInts.stable.overSet (RInts.stable.overSet (RInts.stable.overSet HrF.out (by omega)) (by omega)) (by omega))
    · exact ((Hb3.out.setCell (by simp) _).setCell (by simp) _).setCell (by simp) _
  · have Hz := Lib.hid (show ((satMayN v C : Nat) : Int) ≠ 0 by omega)
    have hne : (((satMayN v C : Nat) : Int) != 0) = true := by simp; omega
    have Hz0 := Lib.hid hz
    clear hz
    go_enter Try.func10, Try.ntmps10
    go_wp2_with (first
      | (go_at_call 19
         refine (Hm.out _ (RIntss.stable.up Hs.out ((below_alloc _ _).alloc (by simp) _))).mono ?_
         rintro e w1 ⟨rfl, hb1⟩
         obtain ⟨hc, hf⟩ := bcell hb1
         have hz1 : w.heap.size + 1 < w1.heap.size := (by have := hb1.size; simp at this; omega)
         have Hb1 := Lib.hid (((below_alloc w _).alloc (by simp) _).trans (hb1.mono (by simp; omega)))
         clear hb1))
    refine bodyPost_ret (v := .tuple #[cells3 0 (.slice none 0 0) (.slice none 0 0), .int .i64 (satMayN v C : Nat)]) (by simp [cells3, results, Try.results10, go_sem, hc, hz1]) rfl (.inl ⟨Hz0.out, rfl, ?_⟩)
    exact ((Hb1.out.setCell (by simp) _).setCell (by simp) _).setCell (by simp) _
end Go.Proofs.Ytdofiipckcfopaa
