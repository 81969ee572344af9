/- CoordIds: the law, walked. -/
import Derived.Test.YtldhgdoeehnbjaaDoorCoK1
import Derived.Test.YtldhgdoeehnbjaaDoorCoA
import Derived.Lib.QuietBelow
namespace Go.Proofs.YtldhgdoeehnbjaaDoor
open Go.RowKit

theorem wildB_eq (p : ByteArray) : wildB p = (starB p || idS p) := rfl
/-- three structs in boxes, nine texts in a row -/
structure NineAt (W : World) (a b c d e f g p q : ByteArray) (w1 : World) : Prop where
  below : Below W.heap.size W w1
  lt : W.heap.size + 3 < w1.heap.size
  gv : ∀ j, w1.cell? ⟨W.heap.size, j, none⟩ = #[Value.string a, .string b, .string c][j]?
  ky : ∀ j, w1.cell? ⟨W.heap.size + 1, j, none⟩ = #[Value.string d, .string e, .string f, .string g][j]?
  id : ∀ j, w1.cell? ⟨W.heap.size + 1 + 1, j, none⟩ = #[Value.string p, .string q][j]?
  l : ∀ j, j < 9 → w1.cell? ⟨W.heap.size + 1 + 1 + 1, j, none⟩ = some (.string ([a, b, c, d, e, f, g, p, q].getD j ⟨#[]⟩))
theorem nine_start {W w1 : World} {a b c d e f g p q : ByteArray} (h : w1 = allocs W [.cells #[.string a, .string b, .string c] 35, .cells #[.string d, .string e, .string f, .string g] 30, .cells #[.string p, .string q] 23,
    .cells #[.string a, .string b, .string c, .string d, .string e, .string f, .string g, .string p, .string q] 9]) : NineAt W a b c d e f g p q w1 := by
  have h0 : ∀ i o, [Obj.cells #[.string a, .string b, .string c] 35, .cells #[.string d, .string e, .string f, .string g] 30, .cells #[.string p, .string q] 23,
      .cells #[.string a, .string b, .string c, .string d, .string e, .string f, .string g, .string p, .string q] 9][i]? = some o → w1.heap[W.heap.size + i]? = some o := fun i o e => by rw [h]; exact (allocs_at W _ i).trans e
  have hs : w1.heap.size = W.heap.size + 4 := by rw [h, allocs_heap]; simp
  refine ⟨by rw [h]; exact allocs_below _ W W (Below.refl _ _), by omega, fun j => Lib.cell_of_heap (h0 0 _ rfl) j, fun j => Lib.cell_of_heap (h0 1 _ rfl) j, fun j => Lib.cell_of_heap (h0 2 _ rfl) j, fun j hj => ?_⟩
  have h3 := Lib.cell_of_heap (h0 3 _ rfl) j
  rw [show W.heap.size + 1 + 1 + 1 = W.heap.size + 3 from rfl, h3]
  match j, hj with
  | 0, _ => rfl
  | 1, _ => rfl
  | 2, _ => rfl
  | 3, _ => rfl
  | 4, _ => rfl
  | 5, _ => rfl
  | 6, _ => rfl
  | 7, _ => rfl
  | 8, _ => rfl
set_option maxRecDepth 100000 in
set_option maxHeartbeats 4000000 in
theorem walk_CoordIds (m : Int) (W : World) (hm : MaxAt m W) (v0 v1 v2 : Value) (a0 : Arg Tryd.prog W 35 v0) (a1 : Arg Tryd.prog W 30 v1) (a2 : Arg Tryd.prog W 23 v2) : Calls Tryd.prog 7 #[v0, v1, v2] W fun e W' => e = .returned (.bool true) ∧ Below W.heap.size W W' := by
  obtain ⟨a, b, c, rfl⟩ := arg_gav a0
  obtain ⟨d, e, f, g, rfl⟩ := arg_key a1
  obtain ⟨p, q, rfl⟩ := arg_id a2
  clear a0 a1 a2
  have HL := Lib.hid (fun w (hm : MaxAt m w) => lives_any m w hm)
  obtain ⟨w1, hw1⟩ : ∃ w1, w1 = allocs W [.cells #[.string a, .string b, .string c] 35, .cells #[.string d, .string e, .string f, .string g] 30, .cells #[.string p, .string q] 23,
    .cells #[.string a, .string b, .string c, .string d, .string e, .string f, .string g, .string p, .string q] 9] := ⟨_, rfl⟩
  have HN := Lib.hid (nine_start hw1)
  have HM := Lib.hid (hm.up HN.out.below)
  have HW1 := Lib.hid hw1
  clear hw1 hm
  go_enter Tryd.func7, Tryd.ntmps7
  go_upto_region 2 with (fail)
  rw [show ((((W.alloc (.cells #[.string a, .string b, .string c] 35)).alloc (.cells #[.string d, .string e, .string f, .string g] 30)).alloc (.cells #[.string p, .string q] 23)).alloc (.cells #[.string a, .string b, .string c, .string d, .string e, .string f, .string g, .string p, .string q] 9)) = w1 from HW1.out.symm]
  have HG := Lib.hid HN.out.l
  have Hd := Lib.hid (fun j => show ([a, b, c, d, e, f, g, p, q].getD j ⟨#[]⟩) = ([a, b, c, d, e, f, g, p, q].getD j ⟨#[]⟩) from rfl)
  have Hall : Hid ((∀ j, j < 9 → ([a, b, c, d, e, f, g, p, q].getD j ⟨#[]⟩).size ≤ 400) → a.size ≤ 400 ∧ b.size ≤ 400 ∧ c.size ≤ 400 ∧ d.size ≤ 400 ∧ e.size ≤ 400 ∧ f.size ≤ 400 ∧ g.size ≤ 400 ∧ p.size ≤ 400 ∧ q.size ≤ 400) :=
    Lib.hid (fun h => ⟨h 0 (by omega), h 1 (by omega), h 2 (by omega), h 3 (by omega), h 4 (by omega), h 5 (by omega), h 6 (by omega), h 7 (by omega), h 8 (by omega)⟩)
  generalize [a, b, c, d, e, f, g, p, q] = L at HG Hall Hd
  go_loop [30] (fun sv => ∃ k : Nat, k ≤ 9 ∧ sv = .int .i64 k ∧ Hid (∀ j, j < k → (L.getD j ⟨#[]⟩).size ≤ 400)) (fun sv => 9 - (intOf sv).toNat)
  case atStart => exact ⟨0, Nat.zero_le _, rfl, Lib.hid (fun j hj => absurd hj (Nat.not_lt_zero _))⟩
  case round =>
    obtain ⟨k, hk9, rfl, Hi⟩ := hrel
    by_cases hk : k < 9
    · have hc := HG.out k hk
      rcases Nat.lt_or_ge 400 (L.getD k ⟨#[]⟩).size with h | h
      · generalize L.getD k ⟨#[]⟩ = x at hc h
        go_wp2_with (go_at_call 11; with_reducible refine (HL.out _ HM.out).mono ?_; rintro e w4 ⟨rfl, hb⟩; have HB3 := Lib.hid (HN.out.below.trans (hb.mono HN.out.below.size)); clear hb)
        go_ret
        exact ⟨rfl, HB3.out⟩
      · have Hn := Lib.hid (show ∀ j, j < k + 1 → (L.getD j ⟨#[]⟩).size ≤ 400 from fun j hj => by
          rcases Nat.lt_or_ge j k with h' | h'
          · exact Hi.out j h'
          · rw [show j = k by omega]; exact h)
        generalize L.getD k ⟨#[]⟩ = x at hc h
        go_wp2
        go_round
        case rel => exact ⟨k + 1, by omega, by go_num, Hn⟩
        case measure => simp [intOf]; omega
    · obtain rfl : k = 9 := by omega
      obtain ⟨ha, hb, hc, hd, he, hf, hg, hp, hq⟩ := Hall.out Hi.out
      have p0 := HN.out.id 0
      have p1 := HN.out.id 1
      have g0 := HN.out.gv 0
      have g1 := HN.out.gv 1
      have g2 := HN.out.gv 2
      have k0 := HN.out.ky 0
      have k1 := HN.out.ky 1
      have k2 := HN.out.ky 2
      have k3 := HN.out.ky 3
      simp only [List.getElem?_toArray, List.getElem?_cons_succ, List.getElem?_cons_zero] at p0 p1 g0 g1 g2 k0 k1 k2 k3
      have IP := Lib.hid (fun w => refIsId_any p w (by omega))
      have IQ := Lib.hid (fun w => refIsId_any q w (by omega))
      have HP := Lib.hid (fun w => MayPattern_any p q w (by omega) (by omega))
      have Hm1 := Lib.hid (show mayP p q = ((starB p || idS p) && (starB q || idS q)) from rfl)
      have IA := Lib.hid (fun w => IsId_any a w (by omega))
      have IAr := Lib.hid (fun w => refIsId_b a w (by omega))
      have MG := Lib.hid (fun w (hm : MaxAt m w) => MayGav_any a b c m w (by omega) (by omega) (by omega) hm)
      have MGr := Lib.hid (fun w => refMayGav_any a b c w (by omega) (by omega) (by omega))
      have MK := Lib.hid (fun w => MayKey_any d e f g w (by omega) (by omega) (by omega) (by omega))
      have MKr := Lib.hid (fun w => refMayKey_any d e f g w (by omega) (by omega) (by omega) (by omega))
      generalize idS p = ip at IP Hm1
      generalize idS q = iq at IQ Hm1
      generalize idS a = ia at IA IAr
      generalize mayG a b c = xg at MG MGr
      generalize mayK d e f g = xk at MK MKr
      generalize mayP p q = xp at HP Hm1
      have Hst := Lib.hid (fun x : ByteArray => show starB x = (x.toList == [42]) from rfl)
      clear ha hb hc hd he hf hg hp hq
      go_upto_region 7 with (fail)
      go_cut [9] (fun s9 wx => s9 = .bool xp ∧ wx = w1)
      case first =>
        have hp := (Hst.out p).symm
        have hq := (Hst.out q).symm
        generalize starB p = sp at hp Hm1
        generalize starB q = sq at hq Hm1
        cases sp <;> cases ip <;> cases sq <;> cases iq
        all_goals
          go_wp2_with (first
            | (go_at_call 22; with_reducible refine (IP.out _).mono ?_; rintro e w4 ⟨rfl, rfl⟩)
            | (go_at_call 22; with_reducible refine (IQ.out _).mono ?_; rintro e w4 ⟨rfl, rfl⟩))
          go_meet
          exact ⟨by rw [Hm1.out]; rfl, rfl⟩
      case rest =>
        obtain ⟨rfl, hwc⟩ := hcut
        obtain rfl := hwc.symm
        have hz1 := HN.out.lt
        have hup := fun {j b : Nat} {v : Value} (hb : b < w1.heap.size) (h : w1.cell? ⟨b, j, none⟩ = some v) dd os => ((below_regrown w1 dd os).cell (p := ⟨b, j, none⟩) hb).trans h
        have q0 := hup (by omega) p0
        have q1 := hup (by omega) p1
        have q2 := hup (by omega) g0
        have q3 := hup (by omega) g1
        have q4 := hup (by omega) g2
        have q5 := hup (by omega) k0
        have q6 := hup (by omega) k1
        have q7 := hup (by omega) k2
        have q8 := hup (by omega) k3
        clear hup
        have HMr := Lib.hid (fun dd os => HM.out.up (below_regrown w1 dd os))
        go_upto_region 8 with (fail)
        refine wp_region_quiet_below (by kernel_rfl) (by kernel_rfl) ?_
        repeat (quiet_step (first
            | (go_at_call 23; with_reducible exact Calls.regrown_of (IA.out _))
            | (go_at_call 22; with_reducible exact Calls.regrown_of (IAr.out _))
            | (go_at_call 24; with_reducible exact Calls.regrown_of (MG.out _ (HMr.out _ _)))
            | (go_at_call 25; with_reducible exact Calls.regrown_of (MGr.out _))
            | (go_at_call 26; with_reducible exact Calls.regrown_of (MK.out _))
            | (go_at_call 27; with_reducible exact Calls.regrown_of (MKr.out _))
            | (go_at_call 28; with_reducible exact Calls.regrown_of (HP.out _))
            | (go_at_call 11; with_reducible exact Calls.regrown_of (HL.out _ (HMr.out _ _)))))
        refine wpQuiet_nil ?_
        intro _ hw'
        obtain ⟨⟨dq, osq⟩, hw''⟩ := hw'
        subst hw''
        go_wp2
        go_ret
        exact ⟨rfl, HN.out.below.trans ((below_regrown w1 dq osq).mono HN.out.below.size)⟩
end Go.Proofs.YtldhgdoeehnbjaaDoor
