/- PropTurned: the law, walked. -/
import Derived.Test.YtpgdioopkcfjdaaPrK5
import Derived.Test.YtpgdioopkcfjdaaPrD9
import Derived.Test.YtpgdioopkcfjdaaPrW10
import Derived.Test.YtpgdioopkcfjdaaArgC2
namespace Go.Proofs.Ytpgdioopkcfjdaa
open Go.RowKit Go.ChangeShapes Go.WideShapes Go.ChangeAt Go.Deep

theorem arg_uint {w : World} {v : Value} (h : Arg Try.prog w 40 v) : ∃ n : Int, v = .int .u64 n ∧ 0 ≤ n ∧ n ≤ 18446744073709551615 := by
  obtain ⟨H, enc, base, d, p, hw, hd, _⟩ := h
  obtain ⟨n, hx, _, _, hf⟩ := open_int Try.underlying40 hw hd
  refine ⟨n, hx, ?_⟩
  simp only [Lit.wf, Bool.and_eq_true, decide_eq_true_eq] at hf
  exact hf
theorem lookP_lt (L : PL) (n : Bs) : (idxP L n < 0 ∧ lookP L n = none) ∨ (0 ≤ idxP L n ∧ lookP L n ≠ none) := by
  rcases lookP_idx L n with ⟨i, hi, hix, hlk, -⟩ | ⟨hix, hlk⟩
  · exact .inr ⟨by omega, by rw [hlk]; simp⟩
  · exact .inl ⟨by omega, hlk⟩
theorem Expand_E {L : PL} {s : Bs} {E : Ans × PL} (hE : expP L [] s = E) (hL : ∀ p ∈ L, p.2.length ≤ 1000000) (hs : s.length ≤ 1000000) {m : Int} {B T R Dn : Nat} {lv : Value} {U : PL} {w : World} (hB : 0 < B) (hm : MaxAt m w) (ht : TabAt w B T R Dn lv L U []) :
    Calls Try.prog 13 #[.pointer (some ⟨T, 0, none⟩), sv s] w fun e w' => e = .returned (.tuple #[sv (okOf E.1), .int .i64 (errOf E.1), sv (nmOf E.1)]) ∧ TabAt w' B T R Dn lv L U E.2 ∧ Ch (ChT T Dn) w w' := by
  subst hE; exact Expand_any hB hL s w hm ht hs
theorem turn_mem {X : PL} {k : Nat} {p : Bs × Bs} (h : p ∈ X.drop k ++ X.take k) : p ∈ X := by
  rcases List.mem_append.1 h with h | h
  · exact List.mem_of_mem_drop h
  · exact List.mem_of_mem_take h
theorem POwn.lit1 (w : World) (p : Bs × Bs) : POwn (w.alloc (.cells #[sv p.1, sv p.2] 42)) w.heap.size (.slice (some ⟨w.heap.size, 0, none⟩) 1 1) [p] :=
  World.ownsRow_lit (base := w.heap.size) (e := 42) (size := 2) w #[sv p.1, sv p.2] 1 (Nat.le_refl _) (by unfold maxLen; omega) rfl
set_option maxRecDepth 100000 in
set_option maxHeartbeats 16000000 in
theorem walk_PropTurned (m : Int) (W : World) (hm : MaxAt m W) (v0 v1 v2 : Value) (a0 : Arg Try.prog W 22 v0) (a1 : Arg Try.prog W 40 v1) (a2 : Arg Try.prog W 9 v2) : Calls Try.prog 5 #[v0, v1, v2] W fun e W' => e = .returned (.bool true) ∧ Below W.heap.size W W' := by
  obtain ⟨L0, r0⟩ := arg_props a0
  obtain ⟨at_, rfl, hat0, hat1⟩ := arg_uint a1
  obtain ⟨s0, rfl⟩ := arg_text a2
  clear a0 a1 a2
  have HC := Lib.hid (fun s w => lawcutL_any s w)
  have hal := cut1_len s0
  have hl := fewP_length L0
  have F0 := Lib.hid (few_any v0 L0 W r0)
  generalize fewP L0 = L at F0 hl
  obtain ⟨s, hs⟩ : ∃ s, s = cut1 s0 := ⟨_, rfl⟩
  rw [← hs] at hal
  have Hs := Lib.hid hs
  have HM := Lib.hid hm
  have hpos := hm.lt
  clear hm r0 hs
  obtain ⟨x0, hx0⟩ : ∃ x0, x0 = v0 := ⟨_, rfl⟩
  rw [← hx0] at F0 ⊢
  clear hx0
  go_enter Try.func5, Try.ntmps5
  go_wp2_with (go_at_call 11; with_reducible refine F0.out.mono ?_; rintro e w1 ⟨u1, rfl, h1, h2⟩; obtain ⟨A1, c1, rfl, hm1, hat1'⟩ := (props_of_own (S := Lt w1.heap.size) h1 fun g hg => (h1.lt g hg).2).open_; (have Hat := Lib.hid hat1'; have HB1 := Lib.hid h2; clear h1 h2 hat1'))
  obtain ⟨B, hB⟩ : ∃ B, B = w1.heap.size := ⟨_, rfl⟩
  have HBe := Lib.hid hB
  rw [← hB] at Hat
  clear hB
  go_loopw [31, 7] (fun kv lv wr => ∃ k : Nat, k ≤ L.length ∧ kv = .int .i64 k ∧ Hid (POwn wr B lv (ownP (L.take k))) ∧ Hid (ownP (L.take k) = [] → lv = .slice none 0 0) ∧ Hid (Below B w1 wr)) (fun kv _ _ => L.length - (intOf kv).toNat)
  case atStart => exact ⟨0, Nat.zero_le _, rfl, Lib.hid (POwn.nil _ _), Lib.hid (fun _ => rfl), Lib.hid (Below.refl _ _)⟩
  case round =>
    obtain ⟨lv, hlv⟩ : ∃ lv, lv = u7 := ⟨_, rfl⟩
    rw [← hlv] at hrel ⊢
    clear hlv
    obtain ⟨k, hkle, rfl, HR, HN, HB⟩ := hrel
    rcases Nat.lt_or_ge k L.length with hk | hk
    · obtain ⟨b, off, rfl, hb, c0, c1⟩ := prop_cells (Hat.out.agree (VCells.stable _) (ag_of_below HB.out) (fun _ h => h)) hk
      have hsz : B ≤ wr.heap.size := by rw [HBe.out]; exact HB.out.size
      have Hsz := Lib.hid hsz
      rcases Nat.lt_or_ge k 20 with h6 | h6
      · have Hs6 := Lib.hid (ownP_succ L k hk h6)
        have d6 : decide (((k : Nat) : Int) < 20) = true := by rw [decide_eq_true_iff]; omega
        rcases Nat.lt_or_ge 100 (L[k].2).length with h7 | h7
        · have Hs7 := Lib.hid (show ownStep (ownP (L.take k)) L[k] = ownP (L.take k) from if_neg (by omega))
          have d7 : decide ((((bz L[k].2).size : Nat) : Int) ≤ 100) = false := by rw [decide_eq_false_iff_not, bz_size]; omega
          clear hsz
          go_wp2
          go_roundw
          case rel => exact ⟨k + 1, by omega, by go_num, Lib.hid (by rw [Hs6.out, Hs7.out]; exact HR.out.alloc _), Lib.hid (by rw [Hs6.out, Hs7.out]; exact HN.out), Lib.hid (HB.out.alloc Hsz.out _)⟩
          case measure => simp [intOf]; omega
        · have d7 : decide ((((bz L[k].2).size : Nat) : Int) ≤ 100) = true := by rw [decide_eq_true_iff, bz_size]; omega
          have d7' : (((bz L[k].2).size : Nat) : Int) ≤ 100 := by rw [bz_size]; omega
          have HA := Lib.hid (fun w (hb : Below wr.heap.size wr w) => At_any lv (ownP (L.take k)) L[k].1 w (props_of_own (S := Lt w.heap.size) (HR.out.new hb) fun g hg => ((HR.out.new hb).lt g hg).2))
          have HI := Lib.hid (below_alloc wr (.cells #[sv L[k].1, sv L[k].2] 42))
          have Hlen := Lib.hid (ownP_length (L.take k))
          rcases lookP_lt (ownP (L.take k)) L[k].1 with ⟨hi, hn⟩ | ⟨hi, hn⟩
          · have Hs7 := Lib.hid (show ownStep (ownP (L.take k)) L[k] = ownP (L.take k) ++ [L[k]] from if_pos ⟨h7, hn⟩)
            clear hn hsz
            go_wp2_with (first
              | (go_at_call 19; with_reducible refine (HA.out _ HI.out).mono ?_; rintro e w2 ⟨rfl, h2⟩; (have HB2 := Lib.hid (HI.out.trans (h2.mono HI.out.size)); have cq := (h2.cell (p := ⟨wr.heap.size, 0, none⟩) (by simp)).trans (two_new wr _ _ _).1; have cr := (h2.cell (p := ⟨wr.heap.size, 1, none⟩) (by simp)).trans (two_new wr _ _ _).2; clear h2))
              | (at_builtin; refine wpList_pushP rfl _ _ rfl (v := lv) rfl ((HR.out.new HB2.out).alloc _) w2.heap.size L[k] rfl (two_new _ _ _ _).1 (two_new _ _ _ _).2 (by have := Hlen.out; omega) (by have := HB2.out.size; have := Hsz.out; simp; omega) ?_; intro v5 w5 hown5 hg5 hat5))
            have HB5 := Lib.hid (((HB.out.trans (HB2.out.mono Hsz.out)).alloc (Nat.le_trans Hsz.out HB2.out.size) _).grown hg5 (by have := HB2.out.size; have := Hsz.out; simp; omega) (fun g hg => (HR.out.lt g hg).1))
            have HO5 := Lib.hid (show POwn w5 B v5 (ownP (L.take (k + 1))) by rw [Hs6.out, Hs7.out]; exact hown5)
            clear hown5 hg5 hat5
            go_wp2
            go_roundw
            case rel => exact ⟨k + 1, by omega, by go_num, HO5, Lib.hid (by rw [Hs6.out, Hs7.out]; intro h; simp at h), HB5⟩
            case measure => simp [intOf]; omega
          · have Hs7 := Lib.hid (show ownStep (ownP (L.take k)) L[k] = ownP (L.take k) from if_neg fun h => hn h.2)
            clear hn hsz
            go_wp2_with (go_at_call 19; with_reducible refine (HA.out _ HI.out).mono ?_; rintro e w2 ⟨rfl, h2⟩; (have HB2 := Lib.hid (HI.out.trans (h2.mono HI.out.size)); clear h2))
            go_roundw
            case rel => exact ⟨k + 1, by omega, by go_num, Lib.hid (by rw [Hs6.out, Hs7.out]; exact HR.out.new HB2.out), Lib.hid (by rw [Hs6.out, Hs7.out]; exact HN.out), Lib.hid (HB.out.trans (HB2.out.mono Hsz.out))⟩
            case measure => simp [intOf]; omega
      · have Hs6 := Lib.hid (ownP_stay L k h6)
        have d6 : decide (((k : Nat) : Int) < 20) = false := by rw [decide_eq_false_iff_not]; omega
        clear hsz
        go_wp2
        go_roundw
        case rel => exact ⟨k + 1, by omega, by go_num, Lib.hid (by rw [Hs6.out]; exact HR.out.alloc _), Lib.hid (by rw [Hs6.out]; exact HN.out), Lib.hid (HB.out.alloc Hsz.out _)⟩
        case measure => simp [intOf]; omega
    · obtain rfl : k = L.length := by omega
      rw [List.take_length] at HR HN
      have hXl := ownP_length L
      have HX := Lib.hid (exp_turn L)
      have HXs := Lib.hid (ownP_small L)
      generalize ownP L = X at HR hXl HX HXs HN
      rcases Nat.eq_zero_or_pos X.length with h0 | h0
      · obtain rfl : X = [] := List.eq_nil_of_length_eq_zero h0
        obtain rfl := HN.out rfl
        go_wp2_with fail
        go_region_law (first
          | (refine step_appR (by rfl) _ _ (by rfl) (v := .slice (some ⟨wr.heap.size, 0, none⟩) 0 0) (by rfl) (POwn.lit0 wr) (x' := .slice none 0 0) (by rfl) (M := []) (.inl ⟨rfl, rfl⟩) (by simp) (by simp) ?_
             intro v5 w5 hown5 hg5 hat5
             have HO5 := Lib.hid hown5
             have HB5 := Lib.hid ((below_alloc wr (.cells #[] 42)).drew.grown hg5 (by simp) (fun g hg => (POwn.lt (POwn.lit0 wr) g hg).1))
             clear hown5 hg5 hat5)
          | (refine step_appR (by rfl) _ _ (by rfl) (v := v5) (by rfl) HO5.out (x' := .slice none 0 0) (by rfl) (M := []) (.inl ⟨rfl, rfl⟩) (by simp) HB5.out.size ?_
             intro v6 w6 hown6 hg6 hat6
             have HO6 := Lib.hid hown6
             have HB6 := Lib.hid (by first | exact HB5.out.grown hg6 HB5.out.size (fun g hg => (HO5.out.lt g hg).1) | exact HB5.out.drew.grown hg6 HB5.out.size (fun g hg => (HO5.out.lt g hg).1))
             clear hown6 hg6 hat6))
        have HO6 := Lib.hid (show POwn w6 wr.heap.size v6 (([] : PL).drop 0 ++ ([] : PL).take 0) by simpa using HO6.out)
        have HT := Lib.hid (show expP (([] : PL).drop 0 ++ ([] : PL).take 0) [] s = expP ([] : PL) [] s from HX.out 0 s)
        have HTs := Lib.hid (show ∀ p ∈ ([] : PL).drop 0 ++ ([] : PL).take 0, p.2.length ≤ 1000000 from fun p hp => by
          have := HXs.out p (turn_mem hp)
          omega)
        have hTl : (([] : PL).drop 0 ++ ([] : PL).take 0).length ≤ 20 := by simp <;> omega
        generalize ([] : PL).drop 0 ++ ([] : PL).take 0 = TX at HT HTs hTl HO6
        have HXL := Lib.hid (show ∀ p ∈ ([] : PL), p.2.length ≤ 1000000 from fun p hp => by have := HXs.out p hp; omega)
        have HNL := Lib.hid (show ∀ p ∈ (nevN, nevV) :: ([] : PL), p.2.length ≤ 1000000 from fun p hp => by
          rcases List.mem_cons.1 hp with h | h
          · rw [h]; decide
          · exact HXL.out p h)
        obtain ⟨E1, hE1⟩ : ∃ E, E = expP ([] : PL) [] s := ⟨_, rfl⟩
        obtain ⟨E3, hE3⟩ : ∃ E, E = expP ((nevN, nevV) :: ([] : PL)) [] s := ⟨_, rfl⟩
        rw [← hE1] at HT
        have HE1 := Lib.hid hE1.symm
        have HE3 := Lib.hid hE3.symm
        have hBr : Below w1.heap.size w1 wr := HBe.out ▸ HB.out
        have HWr := Lib.hid (HB1.out.trans (hBr.mono HB1.out.size))
        have cN : (⟨#[110, 101, 118, 101, 114, 32, 123]⟩ : ByteArray) = bz nevN := rfl
        have cV : (⟨#[36, 123, 110, 101, 118, 101, 114, 32, 123, 125]⟩ : ByteArray) = bz nevV := rfl
        have hrl := refsP_length s
        clear hE1 hE3 hBr
        go_wp2_with (first
          | (at_builtin; refine wpList_appR rfl _ _ rfl (v := .slice (some ⟨w6.heap.size, 0, none⟩) 1 1) rfl (POwn.lit1 w6 (nevN, nevV)) rfl (reads_own ((HR.out.new HB6.out).alloc _)) (by simp <;> omega) (by simp) ?_; intro v7 w7 hown7 hg7 hat7; (have HB7 := Lib.hid ((below_alloc w6 (.cells #[sv nevN, sv nevV] 42)).grown hg7 (by simp) (fun g hg => (POwn.lt (POwn.lit1 w6 (nevN, nevV)) g hg).1)); have HO7 := Lib.hid (show POwn w7 w6.heap.size v7 ((nevN, nevV) :: ([] : PL)) from hown7); have HQ7 := Lib.hid (HO6.out.new HB7.out); have HP7 := Lib.hid (HR.out.new (HB6.out.trans (HB7.out.mono HB6.out.size))); have HW7 := Lib.hid (HWr.out.trans ((HB6.out.trans (HB7.out.mono HB6.out.size)).mono HWr.out.size)); have M7 := Lib.hid (HM.out.below HW7.out hpos); clear hown7 hg7 hat7))
          | (go_at_call 12; with_reducible refine (New_any _ ([] : PL) w7 (props_of_own HP7.out fun g hg => (HP7.out.lt g hg).2) (by omega)).mono ?_; rintro e w8 ⟨T1, R1, D1, l1, rfl, h1, h2⟩; (have T8 := Lib.hid h1; have HB8 := Lib.hid h2; clear h1 h2))
          | (go_at_call 12; with_reducible refine (New_any _ TX w9 (props_of_own (HQ7.out.new HB9.out) fun g hg => ((HQ7.out.new HB9.out).lt g hg).2) (by omega)).mono ?_; rintro e w10 ⟨T2, R2, D2, l2, rfl, h1, h2⟩; (have T10 := Lib.hid h1; have HB10 := Lib.hid (HB9.out.trans (h2.mono HB9.out.size)); clear h1 h2))
          | (go_at_call 12; with_reducible refine (New_any _ ((nevN, nevV) :: ([] : PL)) w11 (props_of_own (HO7.out.new HB11.out) fun g hg => ((HO7.out.new HB11.out).lt g hg).2) (by simp <;> omega)).mono ?_; rintro e w12 ⟨T3, R3, D3, l3, rfl, h1, h2⟩; (have T12 := Lib.hid h1; have HB12 := Lib.hid (HB11.out.trans (h2.mono HB11.out.size)); clear h1 h2))
          | (go_at_call 14; with_reducible refine (HC.out s0 _).mono ?_; rintro e wc ⟨rfl, hwc⟩; (have hwc := hwc.symm; subst hwc); rw [← Hs.out])
          | (go_at_call 13; with_reducible refine (Expand_E HE1.out HXL.out (by omega) M7.out.lt (M7.out.below HB8.out M7.out.lt) T8.out).mono ?_; rintro e w9 ⟨rfl, h1, h2⟩; (have HB9 := Lib.hid (HB8.out.trans (h2.below (B := w7.heap.size) (chT_lo T8.out) HB8.out.size)); have M9 := Lib.hid (M7.out.below HB9.out M7.out.lt); clear h1 h2))
          | (go_at_call 13; with_reducible refine (Expand_E HT.out HTs.out (by omega) M9.out.lt (M7.out.below HB10.out M7.out.lt) T10.out).mono ?_; rintro e w11 ⟨rfl, h1, h2⟩; (have HB11 := Lib.hid (HB10.out.trans (h2.below (B := w7.heap.size) (fun k hk => Nat.le_trans HB9.out.size (chT_lo T10.out k hk)) HB10.out.size)); have M11 := Lib.hid (M7.out.below HB11.out M7.out.lt); clear h1 h2))
          | (go_at_call 13; with_reducible refine (Expand_E HE3.out HNL.out (by omega) M11.out.lt (M7.out.below HB12.out M7.out.lt) T12.out).mono ?_; rintro e w13 ⟨rfl, h1, h2⟩; (have HB13 := Lib.hid (HB12.out.trans (h2.below (B := w7.heap.size) (fun k hk => Nat.le_trans HB11.out.size (chT_lo T12.out k hk)) HB12.out.size)); clear h1 h2))
          | (go_at_call 18; with_reducible refine (RefRefs_any s w13 (by omega)).mono ?_; rintro e w14 ⟨u14, rfl, h1, h2⟩; obtain ⟨A14, c14, rfl, hl14, ha14⟩ := h1.open_; (have HR14 := Lib.hid ha14; have HB14 := Lib.hid (HB13.out.trans (h2.mono HB13.out.size)); have HW14 := Lib.hid (HW7.out.trans (HB14.out.mono HW7.out.size)); have HP14 := Lib.hid (HP7.out.new HB14.out); clear h1 h2 ha14)))
        go_loop [109] (fun kv => ∃ k : Nat, k ≤ (refsP s).length ∧ kv = .int .i64 k ∧ Hid (∀ n ∈ (refsP s).take k, n ≠ nevN)) (fun kv => (refsP s).length - (intOf kv).toNat)
        case atStart => exact ⟨0, Nat.zero_le _, rfl, Lib.hid (by simp)⟩
        case round =>
          obtain ⟨k, hkle, rfl, Hk⟩ := hrel
          rcases Nat.lt_or_ge k (refsP s).length with hk | hk
          · obtain ⟨bq, offq, rfl, hbq, hcq⟩ := HR14.out (by omega)
            obtain ⟨uq, y0, hu⟩ := hcq k hk
            obtain rfl := hu
            clear hcq
            by_cases hn : (refsP s)[k] = nevN
            · have eN : ((bz (refsP s)[k]).toList == (bz nevN).toList) = true := by rw [bz_beq, hn]; rfl
              clear hn
              go_wp2_with (go_at_call 17; with_reducible refine (lives_any (m := m) w14 (HM.out.below HW14.out hpos)).mono ?_; rintro e wz ⟨rfl, h1⟩; (have HZ := Lib.hid (Below.trans HW14.out (h1.mono (Below.size HW14.out))); clear h1))
              go_ret
              exact ⟨rfl, HZ.out⟩
            · have eN : ((bz (refsP s)[k]).toList == (bz nevN).toList) = false := by rw [bz_beq]; exact beq_eq_false_iff_ne.2 hn
              have Hk' := Lib.hid (show ∀ n ∈ (refsP s).take (k + 1), n ≠ nevN by
                intro n hm
                rw [List.take_succ_eq_append_getElem hk, List.mem_append, List.mem_singleton] at hm
                rcases hm with hm | rfl
                · exact Hk.out n hm
                · exact hn)
              clear hn
              go_wp2
              go_round
              case rel => exact ⟨k + 1, by omega, by go_num, Hk'⟩
              case measure => simp [intOf]; omega
          · obtain rfl : k = (refsP s).length := by omega
            rw [List.take_length] at Hk
            go_wp2
            go_loopw [119] (fun kv wi => ∃ i : Nat, i ≤ ([] : PL).length ∧ kv = .int .i64 i ∧ Hid (∀ p ∈ ([] : PL).take i, ∀ n ∈ refsP p.2, n ≠ nevN) ∧ Hid (Below w14.heap.size w14 wi)) (fun kv _ => ([] : PL).length - (intOf kv).toNat)
            case atStart => exact ⟨0, Nat.zero_le _, rfl, Lib.hid (by simp), Lib.hid (Below.refl _ _)⟩
            case round =>
              obtain ⟨i, hile, rfl, Hi, HBi⟩ := hrel
              rcases Nat.lt_or_ge i ([] : PL).length with hi | hi
              · exact absurd hi (Nat.not_lt_zero _)
              · obtain rfl : i = ([] : PL).length := by omega
                rw [List.take_length] at Hi
                have hE : E3 = E1 := HE3.out.symm.trans ((exp_more Hk.out Hi.out).trans HE1.out)
                have HWi := Lib.hid (HW14.out.trans (HBi.out.mono HW14.out.size))
                have e1 : ((bz (okOf E1.1)).toList == (bz (okOf E1.1)).toList) = true := by rw [bz_beq]; simp
                clear HE3
                subst hE
                go_wp2_with (go_at_call 17; with_reducible refine (lives_any (m := m) _ (HM.out.below HWi.out hpos)).mono ?_; rintro e wz ⟨rfl, h1⟩; (have HZ := Lib.hid (Below.trans HWi.out (h1.mono (Below.size HWi.out))); clear h1))
                go_ret
                exact ⟨rfl, HZ.out⟩
      · have HX7 := Lib.hid (pown_form HR.out)
        obtain ⟨A7, c7, rfl⟩ := HR.out.shape
        have d0 : decide ((0 : Int) < ((X.length : Nat) : Int)) = true := by rw [decide_eq_true_iff]; omega
        obtain ⟨kk, hkk⟩ : ∃ kk : Nat, at_ % ((X.length : Nat) : Int) = (kk : Int) := ⟨(at_ % ((X.length : Nat) : Int)).toNat, by have := Int.emod_nonneg at_ (b := ((X.length : Nat) : Int)) (by omega); omega⟩
        have hkl : kk < X.length := by have := Int.emod_lt_of_pos at_ (b := ((X.length : Nat) : Int)) (by omega); omega
        have hkw : wrap64 (at_ % ((X.length : Nat) : Int)) = (kk : Int) := by rw [hkk]; unfold wrap64; omega
        obtain ⟨g7, rfl, hcap⟩ : ∃ g, A7 = some ⟨g, 0, none⟩ ∧ X.length ≤ c7 := by
          rcases HX7.out with ⟨h, -⟩ | ⟨g, cap, h, hc⟩
          · injection h with _ h2 h3; omega
          · injection h with h1 h2 h3; exact ⟨g, h1, by omega⟩
        clear hkk HX7
        have hk1 : kk ≤ X.length := by omega
        have hk2 : kk ≤ c7 := by omega
        have hk3 : ¬ c7 = kk := by omega
        go_wp2_with fail
        go_region_law (first
          | (refine step_appR (by rfl) _ _ (by rfl) (v := .slice (some ⟨wr.heap.size, 0, none⟩) 0 0) (by rfl) (POwn.lit0 wr) (x' := .slice (some ⟨g7, kk * 2, none⟩) (X.length - kk) (c7 - kk)) (by rfl) (reads_drop (HR.out.alloc _) kk _) (by simp <;> omega) (by simp) ?_
             intro v5 w5 hown5 hg5 hat5
             have HO5 := Lib.hid hown5
             have HB5 := Lib.hid ((below_alloc wr (.cells #[] 42)).drew.grown hg5 (by simp) (fun g hg => (POwn.lt (POwn.lit0 wr) g hg).1))
             clear hown5 hg5 hat5)
          | (refine step_appR (by rfl) _ _ (by rfl) (v := v5) (by rfl) HO5.out (x' := .slice (some ⟨g7, 0, none⟩) kk c7) (by rfl) (reads_take (HR.out.new HB5.out) hk1 _) (by simp <;> omega) HB5.out.size ?_
             intro v6 w6 hown6 hg6 hat6
             have HO6 := Lib.hid hown6
             have HB6 := Lib.hid (by first | exact HB5.out.grown hg6 HB5.out.size (fun g hg => (HO5.out.lt g hg).1) | exact HB5.out.drew.grown hg6 HB5.out.size (fun g hg => (HO5.out.lt g hg).1))
             clear hown6 hg6 hat6))
        have HR := Lib.hid (HR.out)
        have hk0 : 0 < X.length := h0
        have HO6 := Lib.hid (show POwn w6 wr.heap.size v6 (X.drop kk ++ X.take kk) by simpa using HO6.out)
        have HT := Lib.hid (show expP (X.drop kk ++ X.take kk) [] s = expP X [] s from HX.out kk s)
        have HTs := Lib.hid (show ∀ p ∈ X.drop kk ++ X.take kk, p.2.length ≤ 1000000 from fun p hp => by
          have := HXs.out p (turn_mem hp)
          omega)
        have hTl : (X.drop kk ++ X.take kk).length ≤ 20 := by simp <;> omega
        generalize X.drop kk ++ X.take kk = TX at HT HTs hTl HO6
        have HXL := Lib.hid (show ∀ p ∈ X, p.2.length ≤ 1000000 from fun p hp => by have := HXs.out p hp; omega)
        have HNL := Lib.hid (show ∀ p ∈ (nevN, nevV) :: X, p.2.length ≤ 1000000 from fun p hp => by
          rcases List.mem_cons.1 hp with h | h
          · rw [h]; decide
          · exact HXL.out p h)
        obtain ⟨E1, hE1⟩ : ∃ E, E = expP X [] s := ⟨_, rfl⟩
        obtain ⟨E3, hE3⟩ : ∃ E, E = expP ((nevN, nevV) :: X) [] s := ⟨_, rfl⟩
        rw [← hE1] at HT
        have HE1 := Lib.hid hE1.symm
        have HE3 := Lib.hid hE3.symm
        have hBr : Below w1.heap.size w1 wr := HBe.out ▸ HB.out
        have HWr := Lib.hid (HB1.out.trans (hBr.mono HB1.out.size))
        have cN : (⟨#[110, 101, 118, 101, 114, 32, 123]⟩ : ByteArray) = bz nevN := rfl
        have cV : (⟨#[36, 123, 110, 101, 118, 101, 114, 32, 123, 125]⟩ : ByteArray) = bz nevV := rfl
        have hrl := refsP_length s
        clear hE1 hE3 hBr
        go_wp2_with (first
          | (at_builtin; refine wpList_appR rfl _ _ rfl (v := .slice (some ⟨w6.heap.size, 0, none⟩) 1 1) rfl (POwn.lit1 w6 (nevN, nevV)) rfl (reads_own ((HR.out.new HB6.out).alloc _)) (by simp <;> omega) (by simp) ?_; intro v7 w7 hown7 hg7 hat7; (have HB7 := Lib.hid ((below_alloc w6 (.cells #[sv nevN, sv nevV] 42)).grown hg7 (by simp) (fun g hg => (POwn.lt (POwn.lit1 w6 (nevN, nevV)) g hg).1)); have HO7 := Lib.hid (show POwn w7 w6.heap.size v7 ((nevN, nevV) :: X) from hown7); have HQ7 := Lib.hid (HO6.out.new HB7.out); have HP7 := Lib.hid (HR.out.new (HB6.out.trans (HB7.out.mono HB6.out.size))); have HW7 := Lib.hid (HWr.out.trans ((HB6.out.trans (HB7.out.mono HB6.out.size)).mono HWr.out.size)); have M7 := Lib.hid (HM.out.below HW7.out hpos); clear hown7 hg7 hat7))
          | (go_at_call 12; with_reducible refine (New_any _ X w7 (props_of_own HP7.out fun g hg => (HP7.out.lt g hg).2) (by omega)).mono ?_; rintro e w8 ⟨T1, R1, D1, l1, rfl, h1, h2⟩; (have T8 := Lib.hid h1; have HB8 := Lib.hid h2; clear h1 h2))
          | (go_at_call 12; with_reducible refine (New_any _ TX w9 (props_of_own (HQ7.out.new HB9.out) fun g hg => ((HQ7.out.new HB9.out).lt g hg).2) (by omega)).mono ?_; rintro e w10 ⟨T2, R2, D2, l2, rfl, h1, h2⟩; (have T10 := Lib.hid h1; have HB10 := Lib.hid (HB9.out.trans (h2.mono HB9.out.size)); clear h1 h2))
          | (go_at_call 12; with_reducible refine (New_any _ ((nevN, nevV) :: X) w11 (props_of_own (HO7.out.new HB11.out) fun g hg => ((HO7.out.new HB11.out).lt g hg).2) (by simp <;> omega)).mono ?_; rintro e w12 ⟨T3, R3, D3, l3, rfl, h1, h2⟩; (have T12 := Lib.hid h1; have HB12 := Lib.hid (HB11.out.trans (h2.mono HB11.out.size)); clear h1 h2))
          | (go_at_call 14; with_reducible refine (HC.out s0 _).mono ?_; rintro e wc ⟨rfl, hwc⟩; (have hwc := hwc.symm; subst hwc); rw [← Hs.out])
          | (go_at_call 13; with_reducible refine (Expand_E HE1.out HXL.out (by omega) M7.out.lt (M7.out.below HB8.out M7.out.lt) T8.out).mono ?_; rintro e w9 ⟨rfl, h1, h2⟩; (have HB9 := Lib.hid (HB8.out.trans (h2.below (B := w7.heap.size) (chT_lo T8.out) HB8.out.size)); have M9 := Lib.hid (M7.out.below HB9.out M7.out.lt); clear h1 h2))
          | (go_at_call 13; with_reducible refine (Expand_E HT.out HTs.out (by omega) M9.out.lt (M7.out.below HB10.out M7.out.lt) T10.out).mono ?_; rintro e w11 ⟨rfl, h1, h2⟩; (have HB11 := Lib.hid (HB10.out.trans (h2.below (B := w7.heap.size) (fun k hk => Nat.le_trans HB9.out.size (chT_lo T10.out k hk)) HB10.out.size)); have M11 := Lib.hid (M7.out.below HB11.out M7.out.lt); clear h1 h2))
          | (go_at_call 13; with_reducible refine (Expand_E HE3.out HNL.out (by omega) M11.out.lt (M7.out.below HB12.out M7.out.lt) T12.out).mono ?_; rintro e w13 ⟨rfl, h1, h2⟩; (have HB13 := Lib.hid (HB12.out.trans (h2.below (B := w7.heap.size) (fun k hk => Nat.le_trans HB11.out.size (chT_lo T12.out k hk)) HB12.out.size)); clear h1 h2))
          | (go_at_call 18; with_reducible refine (RefRefs_any s w13 (by omega)).mono ?_; rintro e w14 ⟨u14, rfl, h1, h2⟩; obtain ⟨A14, c14, rfl, hl14, ha14⟩ := h1.open_; (have HR14 := Lib.hid ha14; have HB14 := Lib.hid (HB13.out.trans (h2.mono HB13.out.size)); have HW14 := Lib.hid (HW7.out.trans (HB14.out.mono HW7.out.size)); have HP14 := Lib.hid (HP7.out.new HB14.out); clear h1 h2 ha14)))
        go_loop [109] (fun kv => ∃ k : Nat, k ≤ (refsP s).length ∧ kv = .int .i64 k ∧ Hid (∀ n ∈ (refsP s).take k, n ≠ nevN)) (fun kv => (refsP s).length - (intOf kv).toNat)
        case atStart => exact ⟨0, Nat.zero_le _, rfl, Lib.hid (by simp)⟩
        case round =>
          obtain ⟨k, hkle, rfl, Hk⟩ := hrel
          rcases Nat.lt_or_ge k (refsP s).length with hk | hk
          · obtain ⟨bq, offq, rfl, hbq, hcq⟩ := HR14.out (by omega)
            obtain ⟨uq, y0, hu⟩ := hcq k hk
            obtain rfl := hu
            clear hcq
            by_cases hn : (refsP s)[k] = nevN
            · have eN : ((bz (refsP s)[k]).toList == (bz nevN).toList) = true := by rw [bz_beq, hn]; rfl
              clear hn
              go_wp2_with (go_at_call 17; with_reducible refine (lives_any (m := m) w14 (HM.out.below HW14.out hpos)).mono ?_; rintro e wz ⟨rfl, h1⟩; (have HZ := Lib.hid (Below.trans HW14.out (h1.mono (Below.size HW14.out))); clear h1))
              go_ret
              exact ⟨rfl, HZ.out⟩
            · have eN : ((bz (refsP s)[k]).toList == (bz nevN).toList) = false := by rw [bz_beq]; exact beq_eq_false_iff_ne.2 hn
              have Hk' := Lib.hid (show ∀ n ∈ (refsP s).take (k + 1), n ≠ nevN by
                intro n hm
                rw [List.take_succ_eq_append_getElem hk, List.mem_append, List.mem_singleton] at hm
                rcases hm with hm | rfl
                · exact Hk.out n hm
                · exact hn)
              clear hn
              go_wp2
              go_round
              case rel => exact ⟨k + 1, by omega, by go_num, Hk'⟩
              case measure => simp [intOf]; omega
          · obtain rfl : k = (refsP s).length := by omega
            rw [List.take_length] at Hk
            go_wp2
            go_loopw [119] (fun kv wi => ∃ i : Nat, i ≤ X.length ∧ kv = .int .i64 i ∧ Hid (∀ p ∈ X.take i, ∀ n ∈ refsP p.2, n ≠ nevN) ∧ Hid (Below w14.heap.size w14 wi)) (fun kv _ => X.length - (intOf kv).toNat)
            case atStart => exact ⟨0, Nat.zero_le _, rfl, Lib.hid (by simp), Lib.hid (Below.refl _ _)⟩
            case round =>
              obtain ⟨i, hile, rfl, Hi, HBi⟩ := hrel
              rcases Nat.lt_or_ge i X.length with hi | hi
              · have hpw := HP14.out.new HBi.out
                have c0 := World.ownsRow.cells hpw (g := g7) rfl (i * 2) _ (pcellsL_at hi).1
                have c1 := World.ownsRow.cells hpw (g := g7) rfl (i * 2 + 1) _ (pcellsL_at hi).2
                rw [add_none, Nat.zero_add] at c0 c1
                have HI := Lib.hid (below_alloc wr (.cells #[sv X[i].1, sv X[i].2] 42))
                have Hxs := Lib.hid (HXL.out X[i] (List.getElem_mem hi))
                have Hsn := Lib.hid (show X.take (i + 1) = X.take i ++ [X[i]] from List.take_succ_eq_append_getElem hi)
                clear hpw
                go_wp2_with (go_at_call 18; with_reducible refine (RefRefs_any X[i].2 _ Hxs.out).mono ?_; rintro e w20 ⟨u20, rfl, h1, h2⟩; obtain ⟨A20, c20, rfl, hl20, ha20⟩ := h1.open_; (have HR20 := Lib.hid ha20; have cq := (h2.cell (p := ⟨wr.heap.size, 0, none⟩) (by simp)).trans (two_new wr _ _ _).1; have HB20 := Lib.hid (HBi.out.trans ((HI.out.trans (h2.mono HI.out.size)).mono HBi.out.size)); have HW20 := Lib.hid (HW14.out.trans (HB20.out.mono HW14.out.size)); clear h1 h2 ha20))
                go_loop [127] (fun kv => ∃ j : Nat, j ≤ (refsP X[i].2).length ∧ kv = .int .i64 j ∧ Hid (∀ n ∈ (refsP X[i].2).take j, n ≠ nevN)) (fun kv => (refsP X[i].2).length - (intOf kv).toNat)
                case atStart => exact ⟨0, Nat.zero_le _, rfl, Lib.hid (by simp)⟩
                case round =>
                  obtain ⟨j, hjle, rfl, Hj⟩ := hrel
                  rcases Nat.lt_or_ge j (refsP X[i].2).length with hj | hj
                  · obtain ⟨bq, offq, rfl, hbq, hcq⟩ := HR20.out (by omega)
                    obtain ⟨uq, y0, hu⟩ := hcq j hj
                    obtain rfl := hu
                    clear hcq
                    by_cases hn : (refsP X[i].2)[j] = nevN
                    · have eN : ((bz (refsP X[i].2)[j]).toList == (bz nevN).toList) = true := by rw [bz_beq, hn]; rfl
                      clear hn
                      go_wp2_with (go_at_call 17; with_reducible refine (lives_any (m := m) w20 (HM.out.below HW20.out hpos)).mono ?_; rintro e wz ⟨rfl, h1⟩; (have HZ := Lib.hid (Below.trans HW20.out (h1.mono (Below.size HW20.out))); clear h1))
                      go_ret
                      exact ⟨rfl, HZ.out⟩
                    · have eN : ((bz (refsP X[i].2)[j]).toList == (bz nevN).toList) = false := by rw [bz_beq]; exact beq_eq_false_iff_ne.2 hn
                      have Hj' := Lib.hid (show ∀ n ∈ (refsP X[i].2).take (j + 1), n ≠ nevN by
                        intro n hm
                        rw [List.take_succ_eq_append_getElem hj, List.mem_append, List.mem_singleton] at hm
                        rcases hm with hm | rfl
                        · exact Hj.out n hm
                        · exact hn)
                      clear hn
                      cases eM : ((bz X[i].1).toList == (bz nevN).toList) with
                      | true =>
                        go_wp2_with (go_at_call 17; with_reducible refine (lives_any (m := m) w20 (HM.out.below HW20.out hpos)).mono ?_; rintro e wz ⟨rfl, h1⟩; (have HZ := Lib.hid (Below.trans HW20.out (h1.mono (Below.size HW20.out))); clear h1))
                        go_ret
                        exact ⟨rfl, HZ.out⟩
                      | false =>
                        go_wp2
                        go_round
                        case rel => exact ⟨j + 1, by omega, by go_num, Hj'⟩
                        case measure => simp [intOf]; omega
                  · obtain rfl : j = (refsP X[i].2).length := by omega
                    rw [List.take_length] at Hj
                    have Hi' := Lib.hid (show ∀ p ∈ X.take (i + 1), ∀ n ∈ refsP p.2, n ≠ nevN by
                      intro p hp
                      rw [Hsn.out, List.mem_append, List.mem_singleton] at hp
                      rcases hp with hp | rfl
                      · exact Hi.out p hp
                      · exact Hj.out)
                    go_wp2
                    go_roundw
                    case rel => exact ⟨i + 1, by omega, by go_num, Hi', HB20⟩
                    case measure => simp [intOf]; omega
              · obtain rfl : i = X.length := by omega
                rw [List.take_length] at Hi
                have hE : E3 = E1 := HE3.out.symm.trans ((exp_more Hk.out Hi.out).trans HE1.out)
                have HWi := Lib.hid (HW14.out.trans (HBi.out.mono HW14.out.size))
                have e1 : ((bz (okOf E1.1)).toList == (bz (okOf E1.1)).toList) = true := by rw [bz_beq]; simp
                clear HE3
                subst hE
                go_wp2_with (go_at_call 17; with_reducible refine (lives_any (m := m) _ (HM.out.below HWi.out hpos)).mono ?_; rintro e wz ⟨rfl, h1⟩; (have HZ := Lib.hid (Below.trans HWi.out (h1.mono (Below.size HWi.out))); clear h1))
                go_ret
                exact ⟨rfl, HZ.out⟩
end Go.Proofs.Ytpgdioopkcfjdaa
