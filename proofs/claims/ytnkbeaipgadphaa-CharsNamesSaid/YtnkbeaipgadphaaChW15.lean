/- Trim and its reference. -/
import Derived.Test.YtnkbeaipgadphaaChW14
namespace Go.Proofs.Ytnkbeaipgadphaa
open Go.RowKit
open C01

/-- where the text ends without the blanks at its end, from a place down to f -/
def toN (s : ByteArray) (f : Nat) : Nat → Nat
  | 0 => 0
  | k + 1 => if f < k + 1 ∧ blankB (byteN s k : Nat) = true then toN s f k else k + 1
def trimF (s : ByteArray) : Nat := spanN blankB s.data.toList
def trimS (s : ByteArray) : ByteArray := s.extract (trimF s) (toN s (trimF s) s.size)
theorem toN_bounds (s : ByteArray) (f : Nat) : ∀ k, f ≤ k → f ≤ toN s f k ∧ toN s f k ≤ k
  | 0, h => ⟨by unfold toN; omega, Nat.le_refl _⟩
  | k + 1, h => by
    unfold toN
    split
    · rename_i h1
      have := toN_bounds s f k (by omega)
      omega
    · omega
theorem trimF_le (s : ByteArray) : trimF s ≤ s.size := by
  have := spanN_le blankB s.data.toList
  rw [Array.length_toList] at this
  exact this
theorem ext_byte {s : ByteArray} {f t m : Nat} (hm : m < t - f) : byteN (s.extract f t) m = byteN s (f + m) := by
  unfold byteN
  congr 1
  rw [ByteArray.data_extract, Array.toList_extract, List.extract_eq_take_drop, List.getD_eq_getElem?_getD, List.getD_eq_getElem?_getD, List.getElem?_take, if_pos hm, List.getElem?_drop]
theorem ext_ext {s : ByteArray} {f t m : Nat} (hf : f ≤ t) (hm : m ≤ t - f) : (s.extract f t).extract 0 m = s.extract f (f + m) := by
  rw [ByteArray.extract_extract]
  congr 1
  omega
set_option maxHeartbeats 1000000 in
theorem Trim_any (s : ByteArray) (w : World) (hs : s.size ≤ 1000000) : Calls Try.prog 32 #[.string s] w fun e w' => e = .returned (.string (trimS s)) ∧ w = w' := by
  have H1 := Lib.hid (fun w => span0_any 23 blankB s w hs (fun args w => by kernel_rfl) (fun x hx => IsBlank_any (x : Nat) w))
  have hf := trimF_le s
  have Ht := Lib.hid (show trimS s = s.extract (trimF s) (toN s (trimF s) s.size) from rfl)
  have Hf := Lib.hid (show trimF s = spanN blankB s.data.toList from rfl)
  rw [← Hf.out] at H1
  generalize trimF s = f at H1 hf Ht
  generalize trimS s = r at Ht ⊢
  clear Hf
  go_enter Try.func32, Try.ntmps32
  go_wp2_with (go_at_call 36; with_reducible refine (H1.out _).mono ?_; rintro e w1 ⟨rfl, rfl⟩)
  go_loop [0] (fun sv => ∃ (t : Nat) (u : ByteArray), f ≤ t ∧ t ≤ s.size ∧ sv = .string u ∧ u.size = t - f ∧ Hid (u = s.extract f t) ∧ Hid (toN s f t = toN s f s.size)) (fun sv => (match sv with | .string u => u.size | _ => 0))
  case atStart => exact ⟨s.size, _, hf, Nat.le_refl _, rfl, by rw [ByteArray.size_extract]; omega, Lib.hid rfl, Lib.hid rfl⟩
  case round =>
    obtain ⟨t, u, hft, hts, rfl, hu, HU, HT⟩ := hrel
    rcases Classical.em (u = ⟨#[]⟩) with hz | hz
    · have hr : r = u := by
        have h0 : u.size = 0 := by rw [hz]; rfl
        obtain rfl : f = t := by omega
        rw [Ht.out, ← HT.out, HU.out]
        congr 1
        have := toN_bounds s f f (Nat.le_refl _)
        omega
      have Hr := Lib.hid hr
      clear hr hu
      subst hz
      go_wp2
      go_ret
      exact ⟨by rw [Hr.out]; rfl, rfl⟩
    · have h0 := size_pos hz
      have e0 := str_ne hz
      have e1 : (u.toList != []) = true := by rw [bne, e0]; rfl
      have e2 : (!(u.toList == [])) = true := by rw [e0]; rfl
      obtain ⟨m, hm⟩ : ∃ m, u.size = m + 1 := ⟨u.size - 1, by omega⟩
      have hmu : m < u.size := by omega
      have hbn := byteN_eq hmu
      have hx : byteN u m = byteN s (f + m) := by rw [HU.out]; exact ext_byte (by omega)
      have Hs : Hid (toN s f t = if f < f + m + 1 ∧ blankB (byteN s (f + m) : Nat) = true then toN s f (f + m) else f + m + 1) := Lib.hid (by rw [show t = f + m + 1 by omega]; rfl)
      rw [← hx] at Hs
      have H2 := Lib.hid (fun w => IsBlank_any (byteN u m : Nat) w)
      have hx2 : u.extract 0 m = s.extract f (f + m) := by rw [HU.out]; exact ext_ext hft (by omega)
      have Hx2 := Lib.hid hx2
      have hsz : (u.extract 0 m).size = m := by rw [ByteArray.size_extract]; omega
      have Hm := Lib.hid hm
      have hm1 : m ≤ 1000000 := by omega
      have hfm : f + m + 1 ≤ t := by omega
      clear hx hx2 hz
      generalize byteN u m = x at Hs H2 hbn
      cases hb : blankB (x : Nat) with
      | true =>
        have Hs := Lib.hid (Hs.out.trans (if_pos ⟨by omega, hb⟩))
        rw [hb] at H2
        clear hb
        have Hsz := Lib.hid hsz
        clear hu hsz
        go_wp2_with (go_at_call 23; with_reducible refine (H2.out _).mono ?_; rintro e w1 ⟨rfl, rfl⟩)
        go_round
        case rel => exact ⟨f + m, _, by omega, by have := Hm.out; omega, rfl, by rw [Hsz.out]; omega, Hx2, Lib.hid (Hs.out.symm.trans HT.out)⟩
        case measure => have := Hm.out; have := Hsz.out; simp; omega
      | false =>
        have Hs := Lib.hid (Hs.out.trans (if_neg (fun h => by rw [hb] at h; cases h.2)))
        rw [hb] at H2
        clear hb
        have hr : r = u := by
          rw [Ht.out, ← HT.out, HU.out, Hs.out, show f + m + 1 = t by omega]
        have Hr := Lib.hid hr
        clear hr hu hsz
        go_wp2_with (go_at_call 23; with_reducible refine (H2.out _).mono ?_; rintro e w1 ⟨rfl, rfl⟩)
        go_ret
        exact ⟨by rw [Hr.out]; rfl, rfl⟩
set_option maxHeartbeats 1000000 in
theorem refTrim_any (s : ByteArray) (w : World) (hs : s.size ≤ 1000000) : Calls Try.prog 33 #[.string s] w fun e w' => e = .returned (.string (trimS s)) ∧ w = w' := by
  have hf := trimF_le s
  have Ht := Lib.hid (show trimS s = s.extract (trimF s) (toN s (trimF s) s.size) from rfl)
  generalize trimS s = r at Ht ⊢
  go_enter Try.func33, Try.ntmps33
  go_wp2
  go_loop [3] (fun sv => ∃ n : Nat, n ≤ s.size ∧ sv = .int .i64 n ∧ Hid (∀ k, k < n → blankB (byteN s k : Nat) = true)) (fun sv => s.size - (intOf sv).toNat)
  case atStart => exact ⟨0, Nat.zero_le _, rfl, Lib.hid fun k hk => absurd hk (Nat.not_lt_zero _)⟩
  case round =>
    obtain ⟨n, hns, rfl, Hi⟩ := hrel
    by_cases hend : n < s.size ∧ blankB (byteN s n : Nat) = true
    · obtain ⟨hn, hb⟩ := hend
      have hbn := byteN_eq hn
      have hx := byteN_lt s n
      have H1 := Lib.hid (fun w => Is_any (byteN s n : Nat) 1 w (by omega))
      rw [(isI_eq _ hx).1, hb] at H1
      have Hi2 : Hid (∀ k, k < n + 1 → blankB (byteN s k : Nat) = true) := Lib.hid (fun k hk => by
        rcases Nat.lt_or_ge k n with h | h
        · exact Hi.out k h
        · rw [show k = n by omega]; exact hb)
      clear hb
      generalize byteN s n = x at H1 hbn hx
      go_wp2_with (go_at_call 24; with_reducible refine (H1.out _).mono ?_; rintro e w1 ⟨rfl, rfl⟩)
      go_round
      case rel => exact ⟨n + 1, by omega, by go_num, Hi2⟩
      case measure => simp [intOf]; omega
    · have hnf : n = trimF s := by
        refine (spanN_eq (by rw [Array.length_toList]; exact hns) Hi.out (fun h => ?_)).symm
        rw [Array.length_toList] at h
        exact Bool.not_eq_true _ ▸ fun hb => hend ⟨h, hb⟩
      have hq : n = s.size ∨ (n < s.size ∧ blankB (byteN s n : Nat) = false) := by
        rcases Nat.lt_or_ge n s.size with h | h
        · exact .inr ⟨h, Bool.not_eq_true _ ▸ fun hb => hend ⟨h, hb⟩⟩
        · exact .inl (by omega)
      rw [← hnf] at Ht
      clear hnf hend Hi hf
      have Hq := Lib.hid hq
      clear hq
      rcases Hq.out with hq | ⟨hq, hb⟩
      case' inl =>
        have hge : s.size ≤ n := by omega
        clear hq Hq
        go_wp2
        clear hge
      case' inr =>
        have hbn := byteN_eq hq
        have hx := byteN_lt s n
        have H1 := Lib.hid (fun w => Is_any (byteN s n : Nat) 1 w (by omega))
        rw [(isI_eq _ hx).1, hb] at H1
        clear hb
        generalize byteN s n = x at H1 hbn hx
        go_wp2_with (go_at_call 24; with_reducible refine (H1.out _).mono ?_; rintro e w1 ⟨rfl, rfl⟩)
        clear hbn hx H1 Hq hq
      all_goals
        go_loop [4] (fun sv => ∃ t : Nat, n ≤ t ∧ t ≤ s.size ∧ sv = .int .i64 t ∧ Hid (toN s n t = toN s n s.size)) (fun sv => (intOf sv).toNat)
        case atStart => exact ⟨s.size, hns, Nat.le_refl _, rfl, Lib.hid rfl⟩
        case round =>
          obtain ⟨t, hnt, hts, rfl, HT⟩ := hrel
          by_cases hlt : n < t
          · obtain ⟨m, rfl⟩ : ∃ m, t = m + 1 := ⟨t - 1, by omega⟩
            have hms : m < s.size := by omega
            have hbn := byteN_eq hms
            have hx := byteN_lt s m
            have H1 := Lib.hid (fun w => Is_any (byteN s m : Nat) 1 w (by omega))
            rw [(isI_eq _ hx).1] at H1
            have Hs : Hid (toN s n (m + 1) = if n < m + 1 ∧ blankB (byteN s m : Nat) = true then toN s n m else m + 1) := Lib.hid rfl
            generalize byteN s m = x at Hs H1 hbn hx
            cases hb : blankB (x : Nat) with
            | true =>
              have Hs2 := Lib.hid (Hs.out.trans (if_pos ⟨by omega, hb⟩))
              rw [hb] at H1
              clear hb
              go_wp2_with (go_at_call 24; with_reducible refine (H1.out _).mono ?_; rintro e w1 ⟨rfl, rfl⟩)
              all_goals
                go_round
                case rel => exact ⟨m, by omega, by omega, by go_num, Lib.hid (Hs2.out.symm.trans HT.out)⟩
                case measure => (first | (simp [intOf]; done) | (simp [intOf]; omega))
            | false =>
              have Hs2 := Lib.hid (Hs.out.trans (if_neg (fun h => by rw [hb] at h; cases h.2)))
              rw [hb] at H1
              clear hb
              have hr : r = s.extract n (m + 1) := by rw [Ht.out, ← HT.out, Hs2.out]
              have Hr := Lib.hid hr
              clear hr
              go_wp2_with (go_at_call 24; with_reducible refine (H1.out _).mono ?_; rintro e w1 ⟨rfl, rfl⟩)
              all_goals
                go_ret
                exact ⟨by rw [Hr.out]; rfl, rfl⟩
          · obtain rfl : t = n := by omega
            have hr : r = s.extract t t := by
              rw [Ht.out, ← HT.out]
              congr 1
              have := toN_bounds s t t (Nat.le_refl _)
              omega
            have Hr := Lib.hid hr
            clear hr
            go_wp2
            go_ret
            exact ⟨by rw [Hr.out]; first | rfl | (rw [ByteArray.extract_same]; rfl) | (simp; done) | (simp; rfl), rfl⟩
end Go.Proofs.Ytnkbeaipgadphaa
