/- CoordScopes: the law, walked. -/
import Derived.Test.YtldhgdoeehnbjaaDoorCoK1
import Derived.Test.YtldhgdoeehnbjaaDoorCoW10
namespace Go.Proofs.YtldhgdoeehnbjaaDoor
open Go.RowKit

def cutS (s : ByteArray) : ByteArray := if 400 < s.size then s.extract 0 400 else s
theorem cutS_size (s : ByteArray) : (cutS s).size ≤ 400 := by
  unfold cutS
  split
  · rw [ByteArray.size_extract]; omega
  · omega
theorem cut_any (s : ByteArray) (w : World) : Calls Tryd.prog 29 #[.string s] w fun e w' => e = .returned (.string (cutS s)) ∧ w = w' := by
  rcases Nat.lt_or_ge 400 s.size with h | h
  · have Hc := Lib.hid (show cutS s = s.extract 0 400 from if_pos h)
    generalize cutS s = c at Hc ⊢
    go_enter Tryd.func29, Tryd.ntmps29
    go_wp2
    go_ret
    exact ⟨by rw [Hc.out]; rfl, rfl⟩
  · have Hc := Lib.hid (show cutS s = s from if_neg (by omega))
    generalize cutS s = c at Hc ⊢
    go_enter Tryd.func29, Tryd.ntmps29
    go_wp2
    go_ret
    exact ⟨by rw [Hc.out]; rfl, rfl⟩
set_option maxHeartbeats 2000000 in
theorem walk_CoordScopes (m : Int) (W : World) (hm : MaxAt m W) (v0 v1 : Value) (a0 : Arg Tryd.prog W 3 v0) (a1 : Arg Tryd.prog W 9 v1) : Calls Tryd.prog 8 #[v0, v1] W fun e W' => e = .returned (.bool true) ∧ Below W.heap.size W W' := by
  obtain ⟨sc, rfl, hsc⟩ := arg_int a0
  obtain ⟨s, rfl⟩ := arg_string a1
  clear a0 a1 hsc
  have H0 := Lib.hid (fun w => cut_any s w)
  generalize cutS s = word at H0
  have H1 := Lib.hid (fun w => Scope_any word w)
  have H2 := Lib.hid (fun w => Scope_any (wordS sc) w)
  have H3 := Lib.hid (fun w => Word_any sc w)
  have H4 := Lib.hid (fun w => refWord_any sc w)
  have hsw := scope_word sc
  have HL := Lib.hid (fun w (hm : MaxAt m w) => lives_any m w hm)
  have HM := Lib.hid hm
  clear hm
  have Hw := Lib.hid (scope_want word)
  have HD := Lib.hid (fun j => show wantN word (j + 1) = if wordC (j + 1) = word then j + 1 else wantN word j from rfl)
  have HD0 := Lib.hid (show wantN word 0 = 0 from rfl)
  go_enter Tryd.func8, Tryd.ntmps8
  go_wp2_with (first
    | (go_at_call 29; with_reducible refine (H0.out _).mono ?_; rintro e w1 ⟨rfl, rfl⟩)
    | (go_at_call 30; with_reducible refine (H1.out _).mono ?_; rintro e w1 ⟨rfl, rfl⟩))
  go_loopw [8, 7] (fun sv nv wr => ∃ k : Nat, 1 ≤ k ∧ k ≤ 7 ∧ sv = .int .i64 k ∧ nv = .int .i64 (wantN word (k - 1) : Nat) ∧ Hid (Below W.heap.size W wr)) (fun sv _ _ => 7 - (intOf sv).toNat)
  case atStart => exact ⟨1, Nat.le_refl _, by omega, rfl, by rw [show 1 - 1 = 0 from rfl, HD0.out]; rfl, Lib.hid (Below.refl _ _)⟩
  case round =>
    obtain ⟨k, hk1, hk7, rfl, rfl, HB⟩ := hrel
    by_cases hk : k < 7
    · have HW := Lib.hid (fun w => refWord_any (k : Int) w)
      rw [wordS_nat k (by omega)] at HW
      have Hs := Lib.hid (show wantN word k = if wordC k = word then k else wantN word (k - 1) by
        obtain ⟨j, rfl⟩ : ∃ j, k = j + 1 := ⟨k - 1, by omega⟩
        exact HD.out j)
      generalize wantN word (k - 1) = x at Hs ⊢
      rcases Classical.em (wordC k = word) with h | h
      · have Hs := Lib.hid (Hs.out.trans (if_pos h))
        have he := beq_text h
        generalize wordC k = y at HW he
        clear h
        go_wp2_with (go_at_call 31; with_reducible refine (HW.out _).mono ?_; rintro e w2 ⟨rfl, hb⟩; have HB2 := Lib.hid (HB.out.trans (hb.mono HB.out.size)); clear hb)
        go_roundw
        case rel => exact ⟨k + 1, by omega, by omega, by go_num, by rw [Nat.add_sub_cancel, Hs.out], HB2⟩
        case measure => simp [intOf]; omega
      · have Hs := Lib.hid (Hs.out.trans (if_neg h))
        have he := bne_text h
        generalize wordC k = y at HW he
        clear h
        go_wp2_with (go_at_call 31; with_reducible refine (HW.out _).mono ?_; rintro e w2 ⟨rfl, hb⟩; have HB2 := Lib.hid (HB.out.trans (hb.mono HB.out.size)); clear hb)
        go_roundw
        case rel => exact ⟨k + 1, by omega, by omega, by go_num, by rw [Nat.add_sub_cancel, Hs.out], HB2⟩
        case measure => simp [intOf]; omega
    · obtain rfl : k = 7 := by omega
      rw [show 7 - 1 = 6 from rfl, Hw.out]
      generalize scopeN word = n at H1 ⊢
      generalize hq : scopeN (wordS sc) = q at H2 hsw
      clear hq
      generalize wordS sc = u at H2 H3 H4
      have hcases : (1 ≤ sc ∧ sc ≤ 6 ∧ (q : Int) = sc) ∨ ((sc < 1 ∨ 6 < sc) ∧ q = 0) := by split at hsw <;> omega
      have hd : decide (0 < (n : Int)) = decide (0 < n) := by rw [decide_eq_decide]; omega
      rcases hcases with ⟨h1, h2, h3⟩ | ⟨h1, h2⟩
      · have Hq := Lib.hid h3
        rw [show decide (0 < q) = true from decide_eq_true (by omega), h3] at H2
        clear hsw h3
        go_wp2_with (first
          | (go_at_call 31; with_reducible refine (H4.out _).mono ?_; rintro e w2 ⟨rfl, hb⟩; have HB := Lib.hid (HB.out.trans (hb.mono HB.out.size)); clear hb)
          | (go_at_call 30; with_reducible refine (H2.out _).mono ?_; rintro e w1 ⟨rfl, rfl⟩)
          | (go_at_call 32; with_reducible refine (H3.out _).mono ?_; rintro e w1 ⟨rfl, rfl⟩)
          | (go_at_call 11; with_reducible refine (HL.out _ (HM.out.up HB.out)).mono ?_; rintro e w2 ⟨rfl, hb⟩; have HB := Lib.hid (HB.out.trans (hb.mono HB.out.size)); clear hb))
        go_ret
        exact ⟨rfl, HB.out⟩
      · subst h2
        clear hsw
        rcases h1 with h1 | h1
        all_goals
          try have f6 : decide (sc ≤ 6) = false := decide_eq_false (by omega)
          try have f1 : decide (1 ≤ sc) = false := decide_eq_false (by omega)
          go_wp2_with (first
            | (go_at_call 31; with_reducible refine (H4.out _).mono ?_; rintro e w2 ⟨rfl, hb⟩; have HB := Lib.hid (HB.out.trans (hb.mono HB.out.size)); clear hb)
            | (go_at_call 30; with_reducible refine (H2.out _).mono ?_; rintro e w1 ⟨rfl, rfl⟩)
            | (go_at_call 32; with_reducible refine (H3.out _).mono ?_; rintro e w1 ⟨rfl, rfl⟩)
            | (go_at_call 11; with_reducible refine (HL.out _ (HM.out.up HB.out)).mono ?_; rintro e w2 ⟨rfl, hb⟩; have HB := Lib.hid (HB.out.trans (hb.mono HB.out.size)); clear hb))
          go_ret
          exact ⟨rfl, HB.out⟩
end Go.Proofs.YtldhgdoeehnbjaaDoor
