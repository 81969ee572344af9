/- PropPlain: the law, walked. -/
import Derived.Test.YtpgdioopkcfjdaaPrK2
import Derived.Test.YtpgdioopkcfjdaaPrX12
import Derived.Test.YtpgdioopkcfjdaaPrD8
namespace Go.Proofs.Ytpgdioopkcfjdaa
open Go.RowKit

theorem idxP_known (L : PL) (n : Bs) : decide (0 ≤ idxP L n) = (lookP L n).isSome := by
  rcases lookP_idx L n with ⟨i, hi, hix, hlk, -⟩ | ⟨hix, hlk⟩
  · rw [hix, hlk]; simp
  · rw [hix, hlk]; rfl
theorem tab_done {w : World} {B T R Dn : Nat} {lv : Value} {L U done done' : PL} (h : TabAt w B T R Dn lv L U done) (e : done = done') : TabAt w B T R Dn lv L U done' := e ▸ h
theorem byteL_36 {l : Bs} {k : Nat} (hk : k < l.length) (h : byteL l k ≠ 36) : l[k] ≠ 36 := by
  intro e
  apply h
  unfold byteL
  rw [List.getD_eq_getElem?_getD, List.getElem?_eq_getElem hk, Option.getD_some, e]; rfl
theorem txtP_le {val : PL → Bs → Ans × PL} {L : PL} {me : Bs} : ∀ (k : Nat) (s acc : Bs) (D D' : PL) (y : Bs), s.length ≤ k → txtP val L me D acc s = (.ok y, D') → y.length ≤ 4096 := by
  intro k
  induction k with
  | zero =>
    intro s acc D D' y hk h
    have : s = [] := List.eq_nil_of_length_eq_zero (by omega)
    subst this
    rw [txtP_none rfl] at h
    split at h
    · cases h
    · cases h; omega
  | succ k ih =>
    intro s acc D D' y hk h
    cases hc : cutP s with
    | none =>
      rw [txtP_none hc] at h
      split at h
      · cases h
      · cases h; omega
    | some x =>
      obtain ⟨a, n, r⟩ := x
      have hlt := cutP_lt hc
      rw [txtP_some hc] at h
      split at h
      · cases h
      · split at h
        · split at h
          · cases h
          · exact ih r _ _ _ _ (by omega) h
        · rename_i hq h9
          injection h with h1 h2
          exact (hq _ h1).elim
theorem plain_fin (L : PL) (a b : Bs) (h : ¬ (36 : UInt8) ∈ a) :
    (∃ y D1, expP L [] b = (.ok y, D1) ∧ (4096 < (a ++ y).length ∧ badOf (expP L D1 (a ++ b)).1 = some (2, []) ∨ (a ++ y).length ≤ 4096 ∧ expP L D1 (a ++ b) = (.ok (a ++ y), D1))) ∨
    (∃ n, badOf (expP L [] b).1 = some (22, n) ∧ badOf (expP L (expP L [] b).2 (a ++ b)).1 = some (22, n)) ∨
    (∃ n n', badOf (expP L [] b).1 = some (22, n) ∧ badOf (expP L (expP L [] b).2 (a ++ b)).1 = some (2, n')) ∨
    (∃ n n', badOf (expP L [] b).1 = some (2, n) ∧ badOf (expP L (expP L [] b).2 (a ++ b)).1 = some (2, n')) := by
  cases hb : expP L [] b with
  | mk x D1 =>
    cases x with
    | ok y =>
      have h1 := plain_ok (a := a) h hb
      refine .inl ⟨y, D1, rfl, ?_⟩
      rcases Nat.lt_or_ge 4096 (a ++ y).length with hc | hc
      · rw [if_pos hc] at h1
        refine .inl ⟨hc, ?_⟩
        rw [show expP L D1 (a ++ b) = _ from h1]; rfl
      · rw [if_neg (by omega)] at h1
        exact .inr ⟨hc, h1⟩
    | loop n =>
      obtain ⟨x', h1, h2⟩ := plain_bad (a := a) h hb (by trivial)
      rcases h2 with h2 | h2
      · subst h2
        exact .inr (.inl ⟨n, rfl, by rw [show expP L D1 (a ++ b) = _ from h1]; rfl⟩)
      · subst h2
        exact .inr (.inr (.inl ⟨n, [], rfl, by rw [show expP L D1 (a ++ b) = _ from h1]; rfl⟩))
    | big n =>
      obtain ⟨x', h1, h2⟩ := plain_bad (a := a) h hb (by trivial)
      rcases h2 with h2 | h2
      · subst h2
        exact .inr (.inr (.inr ⟨n, n, rfl, by rw [show expP L D1 (a ++ b) = _ from h1]; rfl⟩))
      · subst h2
        exact .inr (.inr (.inr ⟨n, [], rfl, by rw [show expP L D1 (a ++ b) = _ from h1]; rfl⟩))
theorem concatS (a b : Bs) (ha : a.length ≤ 5000) (hb : b.length ≤ 5000) (w : World) : (Op.stringOp .add (bz a) (bz b)).run Try.prog w = .ok (sv (a ++ b)) w :=
  (run_string_add_sum (P := Try.prog) (w := w) (bz a) (bz b) (by rw [bz_size, bz_size]; omega)).trans (by rw [bz_append])
set_option maxRecDepth 100000 in
set_option maxHeartbeats 16000000 in
theorem walk_PropPlain (m : Int) (W : World) (hm : MaxAt m W) (v0 v1 v2 : Value) (a0 : Arg Try.prog W 22 v0) (a1 : Arg Try.prog W 9 v1) (a2 : Arg Try.prog W 9 v2) : Calls Try.prog 4 #[v0, v1, v2] W fun e W' => e = .returned (.bool true) ∧ Below W.heap.size W W' := by
  obtain ⟨L0, r0⟩ := arg_props a0
  obtain ⟨a0', rfl⟩ := arg_text a1
  obtain ⟨b0', rfl⟩ := arg_text a2
  clear a0 a1 a2
  have HC := Lib.hid (fun s w => lawcutL_any s w)
  have hal := cut1_len a0'
  have hbl := cut1_len b0'
  have hl := fewP_length L0
  have HL := Lib.hid (show ∀ p ∈ fewP L0, p.2.length ≤ 1000000 from fun p hp => by have := (fewP_ok L0 p hp).2; omega)
  have F0 := Lib.hid (few_any v0 L0 W r0)
  generalize fewP L0 = L at F0 hl HL
  obtain ⟨a, ha⟩ : ∃ a, a = cut1 a0' := ⟨_, rfl⟩
  obtain ⟨b, hb⟩ : ∃ b, b = cut1 b0' := ⟨_, rfl⟩
  rw [← ha] at hal
  rw [← hb] at hbl
  have Ha := Lib.hid ha
  have Hb := Lib.hid hb
  have HM := Lib.hid hm
  have hpos := hm.lt
  clear hm r0 ha hb
  obtain ⟨x0, hx0⟩ : ∃ x0, x0 = v0 := ⟨_, rfl⟩
  rw [← hx0] at F0 ⊢
  clear hx0
  have hrl := refsP_length a
  go_enter Try.func4, Try.ntmps4
  go_wp2_with (first
    | (go_at_call 11; with_reducible refine F0.out.mono ?_; rintro e w1 ⟨u1, rfl, h1, h2⟩; (have HL1 := Lib.hid (props_of_own (S := Lt w1.heap.size) h1 fun g hg => (h1.lt g hg).2); have HB1 := Lib.hid h2; clear h1 h2))
    | (go_at_call 14; with_reducible refine (HC.out a0' _).mono ?_; rintro e w2 ⟨rfl, hw2⟩; subst hw2; rw [← Ha.out])
    | (go_at_call 14; with_reducible refine (HC.out b0' _).mono ?_; rintro e w3 ⟨rfl, hw3⟩; subst hw3; rw [← Hb.out])
    | (go_at_call 12; with_reducible refine (New_any u1 L w3 HL1.out (by omega)).mono ?_; rintro e w4 ⟨T, R, Dn, tv, rfl, h1, h2⟩; (have T4 := Lib.hid h1; have HB4 := Lib.hid h2; have Hp3 := Lib.hid (Nat.lt_of_lt_of_le hpos HB1.out.size); have HM3 := Lib.hid (HM.out.below HB1.out hpos); have HM4 := Lib.hid ((HM.out.below HB1.out hpos).below h2 Hp3.out); clear h1 h2))
    | (go_at_call 13; with_reducible refine (Expand_any (m := m) Hp3.out HL.out a w4 HM4.out T4.out (by omega)).mono ?_; rintro e w5 ⟨rfl, h1, h2⟩; (have T5 := Lib.hid h1; have HB5 := Lib.hid (HB4.out.trans (h2.below (B := w3.heap.size) (chT_lo T4.out) HB4.out.size)); clear h1 h2))
    | (go_at_call 18; with_reducible refine (RefRefs_any a w5 (by omega)).mono ?_; rintro e w6 ⟨u6, rfl, h1, h2⟩; obtain ⟨A6, c6, rfl, hl6, ha6⟩ := h1.open_; (have HR6 := Lib.hid ha6; have T6 := Lib.hid (T5.out.new h2); have HB6 := Lib.hid (HB5.out.trans (h2.mono HB5.out.size)); clear h1 h2 ha6)))
  generalize hX : expP L [] a = X at T6 ⊢
  have HX := Lib.hid hX
  clear hX
  go_loopw [39, 11] (fun kv fv wr => ∃ k : Nat, k ≤ (refsP a).length ∧ kv = .int .i64 k ∧ fv = .bool (((refsP a).take k).any fun n => (lookP L n).isSome) ∧ Hid (Below w6.heap.size w6 wr)) (fun kv _ _ => (refsP a).length - (intOf kv).toNat)
  case atStart => exact ⟨0, Nat.zero_le _, rfl, rfl, Lib.hid (Below.refl _ _)⟩
  case round =>
    obtain ⟨k, hkle, rfl, rfl, HB⟩ := hrel
    rcases Nat.lt_or_ge k (refsP a).length with hk | hk
    · obtain ⟨bq, offq, rfl, hbq, hcq⟩ := (HR6.out.agree RTx.stable (ag_of_below HB.out) (fun _ h => h)) (by omega)
      obtain ⟨uq, y0, hu⟩ := hcq k hk
      obtain rfl := hu
      have Hs := Lib.hid (any_take_succ' (fun n => (lookP L n).isSome) (refsP a) k hk)
      have Hix := Lib.hid (idxP_known L (refsP a)[k])
      have HA := Lib.hid (At_any u1 L (refsP a)[k] wr (HL1.out.up (HB6.out.trans (HB.out.mono HB6.out.size))))
      clear hcq
      cases hany : ((refsP a).take k).any fun n => (lookP L n).isSome with
      | true =>
        have Hn := Lib.hid (show Value.bool true = .bool (((refsP a).take (k + 1)).any fun n => (lookP L n).isSome) by rw [Hs.out, hany]; rfl)
        clear hany
        go_wp2
        go_roundw
        case rel => exact ⟨k + 1, by omega, by go_num, Hn.out, HB⟩
        case measure => simp [intOf]; omega
      | false =>
        have Hn := Lib.hid (show Value.bool (decide (0 ≤ idxP L (refsP a)[k])) = .bool (((refsP a).take (k + 1)).any fun n => (lookP L n).isSome) by rw [Hs.out, hany, Hix.out]; rfl)
        clear hany
        go_wp2_with (go_at_call 19; with_reducible refine HA.out.mono ?_; rintro e w7 ⟨rfl, h2⟩; (have HB7 := Lib.hid (HB.out.trans (h2.mono HB.out.size)); clear h2))
        go_roundw
        case rel => exact ⟨k + 1, by omega, by go_num, Hn.out, HB7⟩
        case measure => simp [intOf]; omega
    · obtain rfl : k = (refsP a).length := by omega
      rw [List.take_length]
      cases hany : (refsP a).any fun n => (lookP L n).isSome with
      | true =>
        clear hany
        go_wp2
        go_loop [64] (fun kv => ∃ k : Nat, k ≤ a.length ∧ kv = .int .i64 k ∧ Hid (¬ (36 : UInt8) ∈ a.take k)) (fun kv => a.length - (intOf kv).toNat)
        case atStart => exact ⟨0, Nat.zero_le _, rfl, Lib.hid (by simp)⟩
        case round =>
          obtain ⟨k, hkle, rfl, Hn⟩ := hrel
          rcases Nat.lt_or_ge k a.length with hk | hk
          · have b0 := byteL_eq (l := a) (k := k) (by rw [bz_size]; omega)
            have HLv := Lib.hid (lives_any (m := m) wr (HM3.out.below (HB6.out.trans (HB.out.mono HB6.out.size)) Hp3.out))
            rcases Classical.em (byteL a k = 36) with h1 | h1
            · rw [h1] at b0
              clear h1
              go_wp2_with (go_at_call 17; with_reducible refine HLv.out.mono ?_; rintro e w10 ⟨rfl, h1⟩; (have HBz := Lib.hid (HB6.out.trans ((HB.out.mono HB6.out.size).trans (h1.mono (HB6.out.trans (HB.out.mono HB6.out.size)).size))); clear h1))
              go_ret
              exact ⟨rfl, HB1.out.trans (HBz.out.mono HB1.out.size)⟩
            · rcases Classical.em (byteL a k = 123) with h2 | h2
              · rw [h2] at b0
                clear h2 h1
                go_wp2_with (go_at_call 17; with_reducible refine HLv.out.mono ?_; rintro e w10 ⟨rfl, h1⟩; (have HBz := Lib.hid (HB6.out.trans ((HB.out.mono HB6.out.size).trans (h1.mono (HB6.out.trans (HB.out.mono HB6.out.size)).size))); clear h1))
                go_ret
                exact ⟨rfl, HB1.out.trans (HBz.out.mono HB1.out.size)⟩
              · have n0 : (((byteL a k : Nat) : Int) == 36) = false := beq_eq_false_iff_ne.2 (by omega)
                have n1 : (((byteL a k : Nat) : Int) == 123) = false := beq_eq_false_iff_ne.2 (by omega)
                have Hn' := Lib.hid (show ¬ (36 : UInt8) ∈ a.take (k + 1) by
                  rw [List.take_succ_eq_append_getElem hk, List.mem_append, List.mem_singleton]
                  rintro (h | h)
                  · exact Hn.out h
                  · exact byteL_36 hk h1 h.symm)
                clear h1 h2
                go_wp2
                go_round
                case rel => exact ⟨k + 1, by omega, by go_num, Hn'⟩
                case measure => simp [intOf]; omega
          · skip
            obtain rfl : k = a.length := by omega
            rw [List.take_length] at Hn
            have Hx : expP L [] a = (.ok a, []) := unknown_any a.length a [] [] (Nat.le_refl _) (by rw [no36_refs Hn.out]; intro n h; cases h) (by rw [List.nil_append]; omega)
            have T7 := Lib.hid (tab_done (T6.out.new HB.out) ((congrArg Prod.snd (HX.out.symm.trans Hx))))
            have HBC := Lib.hid (HB6.out.trans (HB.out.mono HB6.out.size))
            have MC := Lib.hid (HM3.out.below HBC.out Hp3.out)
            have hpf := plain_fin L a b Hn.out
            clear Hx
            have n9 : ¬ a.length < (bz a).size := by rw [bz_size]; omega
            rcases hpf with ⟨y, D1, hx, hy⟩ | ⟨n, hx, hy⟩ | ⟨n, n', hx, hy⟩ | ⟨n, n', hx, hy⟩
            · rcases hy with ⟨hlen, hy⟩ | ⟨hlen, hy⟩
              · skip
                have E1 := Lib.hid (fun w (hm : MaxAt m w) (ht : TabAt w w3.heap.size T R Dn tv L (uniqP L) []) => Expand_ok (m := m) Hp3.out HL.out b _ _ w hm ht (by omega) hx)
                have E2 := Lib.hid (fun w (hm : MaxAt m w) (ht : TabAt w w3.heap.size T R Dn tv L (uniqP L) D1) => Expand_bad (m := m) Hp3.out HL.out (a ++ b) 2 [] w hm ht (by rw [List.length_append]; omega) (by decide) hy)
                have c0 : (⟨#[]⟩ : ByteArray) = bz [] := rfl
                have hgt : (4096 : Int) < wrap64 ((((bz a).size : Nat) : Int) + (((bz y).size : Nat) : Int)) := by
                  have hyl := txtP_le b.length b [] [] _ _ (Nat.le_refl _) hx
                  rw [List.length_append] at hlen
                  rw [bz_size, bz_size]; unfold wrap64; omega
                have hgd := decide_eq_true hgt
                have cab := fun w => concatS a b (by omega) (by omega) w
                clear hx hy
                go_wp2_with (first
                  | (go_at_call 13; with_reducible refine (E1.out wr MC.out T7.out).mono ?_; rintro e w8 ⟨rfl, h1, h2⟩; (have T8 := Lib.hid h1; have HB8 := Lib.hid (HBC.out.trans (h2.below (B := w3.heap.size) (chT_lo T7.out) HBC.out.size)); have M8 := Lib.hid (HM3.out.below HB8.out Hp3.out); clear h1 h2))
                  | (go_at_call 13; with_reducible refine (E2.out w8 M8.out T8.out).mono ?_; rintro e w9 ⟨rfl, h1, h2⟩; (have HB9 := Lib.hid (HB8.out.trans (h2.below (B := w3.heap.size) (chT_lo T8.out) HB8.out.size)); have M9 := Lib.hid (HM3.out.below HB9.out Hp3.out); clear h1 h2))
                  | (go_at_call 17; with_reducible refine (lives_any w9 M9.out).mono ?_; rintro e w10 ⟨rfl, h1⟩; (have HB10 := Lib.hid (HB9.out.trans (h1.mono HB9.out.size)); clear h1)))
                go_ret
                exact ⟨rfl, HB1.out.trans (HB10.out.mono HB1.out.size)⟩
              · have hyl : y.length ≤ 4096 := by rw [List.length_append] at hlen; omega
                have E1 := Lib.hid (fun w (hm : MaxAt m w) (ht : TabAt w w3.heap.size T R Dn tv L (uniqP L) []) => Expand_ok (m := m) Hp3.out HL.out b _ _ w hm ht (by omega) hx)
                have E2 := Lib.hid (fun w (hm : MaxAt m w) (ht : TabAt w w3.heap.size T R Dn tv L (uniqP L) D1) => Expand_ok (m := m) Hp3.out HL.out (a ++ b) _ _ w hm ht (by rw [List.length_append]; omega) hy)
                have cay := fun w => concatS a y (by omega) (by omega) w
                have ez : ((bz (a ++ y)).toList == (bz (a ++ y)).toList) = true := by rw [bz_beq]; simp
                have cab := fun w => concatS a b (by omega) (by omega) w
                clear hx hy
                go_wp2_with (first
                  | (go_at_call 13; with_reducible refine (E1.out wr MC.out T7.out).mono ?_; rintro e w8 ⟨rfl, h1, h2⟩; (have T8 := Lib.hid h1; have HB8 := Lib.hid (HBC.out.trans (h2.below (B := w3.heap.size) (chT_lo T7.out) HBC.out.size)); have M8 := Lib.hid (HM3.out.below HB8.out Hp3.out); clear h1 h2))
                  | (go_at_call 13; with_reducible refine (E2.out w8 M8.out T8.out).mono ?_; rintro e w9 ⟨rfl, h1, h2⟩; (have HB9 := Lib.hid (HB8.out.trans (h2.below (B := w3.heap.size) (chT_lo T8.out) HB8.out.size)); have M9 := Lib.hid (HM3.out.below HB9.out Hp3.out); clear h1 h2))
                  | (go_at_call 17; with_reducible refine (lives_any w9 M9.out).mono ?_; rintro e w10 ⟨rfl, h1⟩; (have HB10 := Lib.hid (HB9.out.trans (h1.mono HB9.out.size)); clear h1)))
                go_ret
                exact ⟨rfl, HB1.out.trans (HB10.out.mono HB1.out.size)⟩
            · skip
              have E1 := Lib.hid (fun w (hm : MaxAt m w) (ht : TabAt w w3.heap.size T R Dn tv L (uniqP L) []) => Expand_bad (m := m) Hp3.out HL.out b 22 n w hm ht (by omega) (by decide) hx)
              have E2 := Lib.hid (fun w (hm : MaxAt m w) (ht : TabAt w w3.heap.size T R Dn tv L (uniqP L) (expP L [] b).2) => Expand_bad (m := m) Hp3.out HL.out (a ++ b) 22 n w hm ht (by rw [List.length_append]; omega) (by decide) hy)
              have e1 : ((bz n).toList == (bz n).toList) = true := by rw [bz_beq]; simp
              have cab := fun w => concatS a b (by omega) (by omega) w
              clear hx hy
              go_wp2_with (first
                | (go_at_call 13; with_reducible refine (E1.out wr MC.out T7.out).mono ?_; rintro e w8 ⟨rfl, h1, h2⟩; (have T8 := Lib.hid h1; have HB8 := Lib.hid (HBC.out.trans (h2.below (B := w3.heap.size) (chT_lo T7.out) HBC.out.size)); have M8 := Lib.hid (HM3.out.below HB8.out Hp3.out); clear h1 h2))
                | (go_at_call 13; with_reducible refine (E2.out w8 M8.out T8.out).mono ?_; rintro e w9 ⟨rfl, h1, h2⟩; (have HB9 := Lib.hid (HB8.out.trans (h2.below (B := w3.heap.size) (chT_lo T8.out) HB8.out.size)); have M9 := Lib.hid (HM3.out.below HB9.out Hp3.out); clear h1 h2))
                | (go_at_call 17; with_reducible refine (lives_any w9 M9.out).mono ?_; rintro e w10 ⟨rfl, h1⟩; (have HB10 := Lib.hid (HB9.out.trans (h1.mono HB9.out.size)); clear h1)))
              go_ret
              exact ⟨rfl, HB1.out.trans (HB10.out.mono HB1.out.size)⟩
            · skip
              have E1 := Lib.hid (fun w (hm : MaxAt m w) (ht : TabAt w w3.heap.size T R Dn tv L (uniqP L) []) => Expand_bad (m := m) Hp3.out HL.out b 22 n w hm ht (by omega) (by decide) hx)
              have E2 := Lib.hid (fun w (hm : MaxAt m w) (ht : TabAt w w3.heap.size T R Dn tv L (uniqP L) (expP L [] b).2) => Expand_bad (m := m) Hp3.out HL.out (a ++ b) 2 n' w hm ht (by rw [List.length_append]; omega) (by decide) hy)
              have cab := fun w => concatS a b (by omega) (by omega) w
              clear hx hy
              go_wp2_with (first
                | (go_at_call 13; with_reducible refine (E1.out wr MC.out T7.out).mono ?_; rintro e w8 ⟨rfl, h1, h2⟩; (have T8 := Lib.hid h1; have HB8 := Lib.hid (HBC.out.trans (h2.below (B := w3.heap.size) (chT_lo T7.out) HBC.out.size)); have M8 := Lib.hid (HM3.out.below HB8.out Hp3.out); clear h1 h2))
                | (go_at_call 13; with_reducible refine (E2.out w8 M8.out T8.out).mono ?_; rintro e w9 ⟨rfl, h1, h2⟩; (have HB9 := Lib.hid (HB8.out.trans (h2.below (B := w3.heap.size) (chT_lo T8.out) HB8.out.size)); have M9 := Lib.hid (HM3.out.below HB9.out Hp3.out); clear h1 h2))
                | (go_at_call 17; with_reducible refine (lives_any w9 M9.out).mono ?_; rintro e w10 ⟨rfl, h1⟩; (have HB10 := Lib.hid (HB9.out.trans (h1.mono HB9.out.size)); clear h1)))
              go_ret
              exact ⟨rfl, HB1.out.trans (HB10.out.mono HB1.out.size)⟩
            · skip
              have E1 := Lib.hid (fun w (hm : MaxAt m w) (ht : TabAt w w3.heap.size T R Dn tv L (uniqP L) []) => Expand_bad (m := m) Hp3.out HL.out b 2 n w hm ht (by omega) (by decide) hx)
              have E2 := Lib.hid (fun w (hm : MaxAt m w) (ht : TabAt w w3.heap.size T R Dn tv L (uniqP L) (expP L [] b).2) => Expand_bad (m := m) Hp3.out HL.out (a ++ b) 2 n' w hm ht (by rw [List.length_append]; omega) (by decide) hy)
              have cab := fun w => concatS a b (by omega) (by omega) w
              clear hx hy
              cases e1 : ((bz n).toList == (bz n').toList) with
              | true =>
                go_wp2_with (first
                  | (go_at_call 13; with_reducible refine (E1.out wr MC.out T7.out).mono ?_; rintro e w8 ⟨rfl, h1, h2⟩; (have T8 := Lib.hid h1; have HB8 := Lib.hid (HBC.out.trans (h2.below (B := w3.heap.size) (chT_lo T7.out) HBC.out.size)); have M8 := Lib.hid (HM3.out.below HB8.out Hp3.out); clear h1 h2))
                  | (go_at_call 13; with_reducible refine (E2.out w8 M8.out T8.out).mono ?_; rintro e w9 ⟨rfl, h1, h2⟩; (have HB9 := Lib.hid (HB8.out.trans (h2.below (B := w3.heap.size) (chT_lo T8.out) HB8.out.size)); have M9 := Lib.hid (HM3.out.below HB9.out Hp3.out); clear h1 h2))
                  | (go_at_call 17; with_reducible refine (lives_any w9 M9.out).mono ?_; rintro e w10 ⟨rfl, h1⟩; (have HB10 := Lib.hid (HB9.out.trans (h1.mono HB9.out.size)); clear h1)))
                go_ret
                exact ⟨rfl, HB1.out.trans (HB10.out.mono HB1.out.size)⟩
              | false =>
                go_wp2_with (first
                  | (go_at_call 13; with_reducible refine (E1.out wr MC.out T7.out).mono ?_; rintro e w8 ⟨rfl, h1, h2⟩; (have T8 := Lib.hid h1; have HB8 := Lib.hid (HBC.out.trans (h2.below (B := w3.heap.size) (chT_lo T7.out) HBC.out.size)); have M8 := Lib.hid (HM3.out.below HB8.out Hp3.out); clear h1 h2))
                  | (go_at_call 13; with_reducible refine (E2.out w8 M8.out T8.out).mono ?_; rintro e w9 ⟨rfl, h1, h2⟩; (have HB9 := Lib.hid (HB8.out.trans (h2.below (B := w3.heap.size) (chT_lo T8.out) HB8.out.size)); have M9 := Lib.hid (HM3.out.below HB9.out Hp3.out); clear h1 h2))
                  | (go_at_call 17; with_reducible refine (lives_any w9 M9.out).mono ?_; rintro e w10 ⟨rfl, h1⟩; (have HB10 := Lib.hid (HB9.out.trans (h1.mono HB9.out.size)); clear h1)))
                go_ret
                exact ⟨rfl, HB1.out.trans (HB10.out.mono HB1.out.size)⟩
      | false =>
        have Hu : ∀ n ∈ refsP a, lookP L n = none := fun n hn => by
          have := List.any_eq_false.1 hany n hn
          simpa using this
        have Hx : expP L [] a = (.ok a, []) := unknown_any a.length a [] [] (Nat.le_refl _) Hu (by rw [List.nil_append]; omega)
        have Hx0 : X = (.ok a, []) := HX.out.symm.trans Hx
        have e0 : ((bz (okOf X.1)).toList == (bz a).toList) = true := by rw [Hx0, bz_beq]; exact beq_self_eq_true a
        have c0 : (errOf X.1 != 0) = false := by rw [Hx0]; rfl
        clear hany Hu Hx Hx0
        go_wp2
        go_loop [64] (fun kv => ∃ k : Nat, k ≤ a.length ∧ kv = .int .i64 k ∧ Hid (¬ (36 : UInt8) ∈ a.take k)) (fun kv => a.length - (intOf kv).toNat)
        case atStart => exact ⟨0, Nat.zero_le _, rfl, Lib.hid (by simp)⟩
        case round =>
          obtain ⟨k, hkle, rfl, Hn⟩ := hrel
          rcases Nat.lt_or_ge k a.length with hk | hk
          · have b0 := byteL_eq (l := a) (k := k) (by rw [bz_size]; omega)
            have HLv := Lib.hid (lives_any (m := m) wr (HM3.out.below (HB6.out.trans (HB.out.mono HB6.out.size)) Hp3.out))
            rcases Classical.em (byteL a k = 36) with h1 | h1
            · rw [h1] at b0
              clear h1
              go_wp2_with (go_at_call 17; with_reducible refine HLv.out.mono ?_; rintro e w10 ⟨rfl, h1⟩; (have HBz := Lib.hid (HB6.out.trans ((HB.out.mono HB6.out.size).trans (h1.mono (HB6.out.trans (HB.out.mono HB6.out.size)).size))); clear h1))
              go_ret
              exact ⟨rfl, HB1.out.trans (HBz.out.mono HB1.out.size)⟩
            · rcases Classical.em (byteL a k = 123) with h2 | h2
              · rw [h2] at b0
                clear h2 h1
                go_wp2_with (go_at_call 17; with_reducible refine HLv.out.mono ?_; rintro e w10 ⟨rfl, h1⟩; (have HBz := Lib.hid (HB6.out.trans ((HB.out.mono HB6.out.size).trans (h1.mono (HB6.out.trans (HB.out.mono HB6.out.size)).size))); clear h1))
                go_ret
                exact ⟨rfl, HB1.out.trans (HBz.out.mono HB1.out.size)⟩
              · have n0 : (((byteL a k : Nat) : Int) == 36) = false := beq_eq_false_iff_ne.2 (by omega)
                have n1 : (((byteL a k : Nat) : Int) == 123) = false := beq_eq_false_iff_ne.2 (by omega)
                have Hn' := Lib.hid (show ¬ (36 : UInt8) ∈ a.take (k + 1) by
                  rw [List.take_succ_eq_append_getElem hk, List.mem_append, List.mem_singleton]
                  rintro (h | h)
                  · exact Hn.out h
                  · exact byteL_36 hk h1 h.symm)
                clear h1 h2
                go_wp2
                go_round
                case rel => exact ⟨k + 1, by omega, by go_num, Hn'⟩
                case measure => simp [intOf]; omega
          · skip
            obtain rfl : k = a.length := by omega
            rw [List.take_length] at Hn
            have Hx : expP L [] a = (.ok a, []) := unknown_any a.length a [] [] (Nat.le_refl _) (by rw [no36_refs Hn.out]; intro n h; cases h) (by rw [List.nil_append]; omega)
            have T7 := Lib.hid (tab_done (T6.out.new HB.out) ((congrArg Prod.snd (HX.out.symm.trans Hx))))
            have HBC := Lib.hid (HB6.out.trans (HB.out.mono HB6.out.size))
            have MC := Lib.hid (HM3.out.below HBC.out Hp3.out)
            have hpf := plain_fin L a b Hn.out
            clear Hx
            have n9 : ¬ a.length < (bz a).size := by rw [bz_size]; omega
            rcases hpf with ⟨y, D1, hx, hy⟩ | ⟨n, hx, hy⟩ | ⟨n, n', hx, hy⟩ | ⟨n, n', hx, hy⟩
            · rcases hy with ⟨hlen, hy⟩ | ⟨hlen, hy⟩
              · skip
                have E1 := Lib.hid (fun w (hm : MaxAt m w) (ht : TabAt w w3.heap.size T R Dn tv L (uniqP L) []) => Expand_ok (m := m) Hp3.out HL.out b _ _ w hm ht (by omega) hx)
                have E2 := Lib.hid (fun w (hm : MaxAt m w) (ht : TabAt w w3.heap.size T R Dn tv L (uniqP L) D1) => Expand_bad (m := m) Hp3.out HL.out (a ++ b) 2 [] w hm ht (by rw [List.length_append]; omega) (by decide) hy)
                have c0 : (⟨#[]⟩ : ByteArray) = bz [] := rfl
                have hgt : (4096 : Int) < wrap64 ((((bz a).size : Nat) : Int) + (((bz y).size : Nat) : Int)) := by
                  have hyl := txtP_le b.length b [] [] _ _ (Nat.le_refl _) hx
                  rw [List.length_append] at hlen
                  rw [bz_size, bz_size]; unfold wrap64; omega
                have hgd := decide_eq_true hgt
                have cab := fun w => concatS a b (by omega) (by omega) w
                clear hx hy
                go_wp2_with (first
                  | (go_at_call 13; with_reducible refine (E1.out wr MC.out T7.out).mono ?_; rintro e w8 ⟨rfl, h1, h2⟩; (have T8 := Lib.hid h1; have HB8 := Lib.hid (HBC.out.trans (h2.below (B := w3.heap.size) (chT_lo T7.out) HBC.out.size)); have M8 := Lib.hid (HM3.out.below HB8.out Hp3.out); clear h1 h2))
                  | (go_at_call 13; with_reducible refine (E2.out w8 M8.out T8.out).mono ?_; rintro e w9 ⟨rfl, h1, h2⟩; (have HB9 := Lib.hid (HB8.out.trans (h2.below (B := w3.heap.size) (chT_lo T8.out) HB8.out.size)); have M9 := Lib.hid (HM3.out.below HB9.out Hp3.out); clear h1 h2))
                  | (go_at_call 17; with_reducible refine (lives_any w9 M9.out).mono ?_; rintro e w10 ⟨rfl, h1⟩; (have HB10 := Lib.hid (HB9.out.trans (h1.mono HB9.out.size)); clear h1)))
                go_ret
                exact ⟨rfl, HB1.out.trans (HB10.out.mono HB1.out.size)⟩
              · have hyl : y.length ≤ 4096 := by rw [List.length_append] at hlen; omega
                have E1 := Lib.hid (fun w (hm : MaxAt m w) (ht : TabAt w w3.heap.size T R Dn tv L (uniqP L) []) => Expand_ok (m := m) Hp3.out HL.out b _ _ w hm ht (by omega) hx)
                have E2 := Lib.hid (fun w (hm : MaxAt m w) (ht : TabAt w w3.heap.size T R Dn tv L (uniqP L) D1) => Expand_ok (m := m) Hp3.out HL.out (a ++ b) _ _ w hm ht (by rw [List.length_append]; omega) hy)
                have cay := fun w => concatS a y (by omega) (by omega) w
                have ez : ((bz (a ++ y)).toList == (bz (a ++ y)).toList) = true := by rw [bz_beq]; simp
                have cab := fun w => concatS a b (by omega) (by omega) w
                clear hx hy
                go_wp2_with (first
                  | (go_at_call 13; with_reducible refine (E1.out wr MC.out T7.out).mono ?_; rintro e w8 ⟨rfl, h1, h2⟩; (have T8 := Lib.hid h1; have HB8 := Lib.hid (HBC.out.trans (h2.below (B := w3.heap.size) (chT_lo T7.out) HBC.out.size)); have M8 := Lib.hid (HM3.out.below HB8.out Hp3.out); clear h1 h2))
                  | (go_at_call 13; with_reducible refine (E2.out w8 M8.out T8.out).mono ?_; rintro e w9 ⟨rfl, h1, h2⟩; (have HB9 := Lib.hid (HB8.out.trans (h2.below (B := w3.heap.size) (chT_lo T8.out) HB8.out.size)); have M9 := Lib.hid (HM3.out.below HB9.out Hp3.out); clear h1 h2))
                  | (go_at_call 17; with_reducible refine (lives_any w9 M9.out).mono ?_; rintro e w10 ⟨rfl, h1⟩; (have HB10 := Lib.hid (HB9.out.trans (h1.mono HB9.out.size)); clear h1)))
                go_ret
                exact ⟨rfl, HB1.out.trans (HB10.out.mono HB1.out.size)⟩
            · skip
              have E1 := Lib.hid (fun w (hm : MaxAt m w) (ht : TabAt w w3.heap.size T R Dn tv L (uniqP L) []) => Expand_bad (m := m) Hp3.out HL.out b 22 n w hm ht (by omega) (by decide) hx)
              have E2 := Lib.hid (fun w (hm : MaxAt m w) (ht : TabAt w w3.heap.size T R Dn tv L (uniqP L) (expP L [] b).2) => Expand_bad (m := m) Hp3.out HL.out (a ++ b) 22 n w hm ht (by rw [List.length_append]; omega) (by decide) hy)
              have e1 : ((bz n).toList == (bz n).toList) = true := by rw [bz_beq]; simp
              have cab := fun w => concatS a b (by omega) (by omega) w
              clear hx hy
              go_wp2_with (first
                | (go_at_call 13; with_reducible refine (E1.out wr MC.out T7.out).mono ?_; rintro e w8 ⟨rfl, h1, h2⟩; (have T8 := Lib.hid h1; have HB8 := Lib.hid (HBC.out.trans (h2.below (B := w3.heap.size) (chT_lo T7.out) HBC.out.size)); have M8 := Lib.hid (HM3.out.below HB8.out Hp3.out); clear h1 h2))
                | (go_at_call 13; with_reducible refine (E2.out w8 M8.out T8.out).mono ?_; rintro e w9 ⟨rfl, h1, h2⟩; (have HB9 := Lib.hid (HB8.out.trans (h2.below (B := w3.heap.size) (chT_lo T8.out) HB8.out.size)); have M9 := Lib.hid (HM3.out.below HB9.out Hp3.out); clear h1 h2))
                | (go_at_call 17; with_reducible refine (lives_any w9 M9.out).mono ?_; rintro e w10 ⟨rfl, h1⟩; (have HB10 := Lib.hid (HB9.out.trans (h1.mono HB9.out.size)); clear h1)))
              go_ret
              exact ⟨rfl, HB1.out.trans (HB10.out.mono HB1.out.size)⟩
            · skip
              have E1 := Lib.hid (fun w (hm : MaxAt m w) (ht : TabAt w w3.heap.size T R Dn tv L (uniqP L) []) => Expand_bad (m := m) Hp3.out HL.out b 22 n w hm ht (by omega) (by decide) hx)
              have E2 := Lib.hid (fun w (hm : MaxAt m w) (ht : TabAt w w3.heap.size T R Dn tv L (uniqP L) (expP L [] b).2) => Expand_bad (m := m) Hp3.out HL.out (a ++ b) 2 n' w hm ht (by rw [List.length_append]; omega) (by decide) hy)
              have cab := fun w => concatS a b (by omega) (by omega) w
              clear hx hy
              go_wp2_with (first
                | (go_at_call 13; with_reducible refine (E1.out wr MC.out T7.out).mono ?_; rintro e w8 ⟨rfl, h1, h2⟩; (have T8 := Lib.hid h1; have HB8 := Lib.hid (HBC.out.trans (h2.below (B := w3.heap.size) (chT_lo T7.out) HBC.out.size)); have M8 := Lib.hid (HM3.out.below HB8.out Hp3.out); clear h1 h2))
                | (go_at_call 13; with_reducible refine (E2.out w8 M8.out T8.out).mono ?_; rintro e w9 ⟨rfl, h1, h2⟩; (have HB9 := Lib.hid (HB8.out.trans (h2.below (B := w3.heap.size) (chT_lo T8.out) HB8.out.size)); have M9 := Lib.hid (HM3.out.below HB9.out Hp3.out); clear h1 h2))
                | (go_at_call 17; with_reducible refine (lives_any w9 M9.out).mono ?_; rintro e w10 ⟨rfl, h1⟩; (have HB10 := Lib.hid (HB9.out.trans (h1.mono HB9.out.size)); clear h1)))
              go_ret
              exact ⟨rfl, HB1.out.trans (HB10.out.mono HB1.out.size)⟩
            · skip
              have E1 := Lib.hid (fun w (hm : MaxAt m w) (ht : TabAt w w3.heap.size T R Dn tv L (uniqP L) []) => Expand_bad (m := m) Hp3.out HL.out b 2 n w hm ht (by omega) (by decide) hx)
              have E2 := Lib.hid (fun w (hm : MaxAt m w) (ht : TabAt w w3.heap.size T R Dn tv L (uniqP L) (expP L [] b).2) => Expand_bad (m := m) Hp3.out HL.out (a ++ b) 2 n' w hm ht (by rw [List.length_append]; omega) (by decide) hy)
              have cab := fun w => concatS a b (by omega) (by omega) w
              clear hx hy
              cases e1 : ((bz n).toList == (bz n').toList) with
              | true =>
                go_wp2_with (first
                  | (go_at_call 13; with_reducible refine (E1.out wr MC.out T7.out).mono ?_; rintro e w8 ⟨rfl, h1, h2⟩; (have T8 := Lib.hid h1; have HB8 := Lib.hid (HBC.out.trans (h2.below (B := w3.heap.size) (chT_lo T7.out) HBC.out.size)); have M8 := Lib.hid (HM3.out.below HB8.out Hp3.out); clear h1 h2))
                  | (go_at_call 13; with_reducible refine (E2.out w8 M8.out T8.out).mono ?_; rintro e w9 ⟨rfl, h1, h2⟩; (have HB9 := Lib.hid (HB8.out.trans (h2.below (B := w3.heap.size) (chT_lo T8.out) HB8.out.size)); have M9 := Lib.hid (HM3.out.below HB9.out Hp3.out); clear h1 h2))
                  | (go_at_call 17; with_reducible refine (lives_any w9 M9.out).mono ?_; rintro e w10 ⟨rfl, h1⟩; (have HB10 := Lib.hid (HB9.out.trans (h1.mono HB9.out.size)); clear h1)))
                go_ret
                exact ⟨rfl, HB1.out.trans (HB10.out.mono HB1.out.size)⟩
              | false =>
                go_wp2_with (first
                  | (go_at_call 13; with_reducible refine (E1.out wr MC.out T7.out).mono ?_; rintro e w8 ⟨rfl, h1, h2⟩; (have T8 := Lib.hid h1; have HB8 := Lib.hid (HBC.out.trans (h2.below (B := w3.heap.size) (chT_lo T7.out) HBC.out.size)); have M8 := Lib.hid (HM3.out.below HB8.out Hp3.out); clear h1 h2))
                  | (go_at_call 13; with_reducible refine (E2.out w8 M8.out T8.out).mono ?_; rintro e w9 ⟨rfl, h1, h2⟩; (have HB9 := Lib.hid (HB8.out.trans (h2.below (B := w3.heap.size) (chT_lo T8.out) HB8.out.size)); have M9 := Lib.hid (HM3.out.below HB9.out Hp3.out); clear h1 h2))
                  | (go_at_call 17; with_reducible refine (lives_any w9 M9.out).mono ?_; rintro e w10 ⟨rfl, h1⟩; (have HB10 := Lib.hid (HB9.out.trans (h1.mono HB9.out.size)); clear h1)))
                go_ret
                exact ⟨rfl, HB1.out.trans (HB10.out.mono HB1.out.size)⟩
end Go.Proofs.Ytpgdioopkcfjdaa
