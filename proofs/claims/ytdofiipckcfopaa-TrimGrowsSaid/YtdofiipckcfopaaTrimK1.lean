/- The law TrimGrows, walked. -/
import Derived.Test.YtdofiipckcfopaaTrimL
import Derived.Test.YtdofiipckcfopaaFnGrow
import Derived.Test.YtdofiipckcfopaaTrimA
namespace Go.Proofs.Ytdofiipckcfopaa
open Go.RowKit

theorem growT_at {n : Nat} {F : List Int} {ts : List Bool} {i : Nat} (hi : i < n) : (growT n F ts)[i]? = some (F.foldl (fun b x => if x = (i : Int) + 1 ∨ x = -(i : Int) - 1 then decide (0 < x) else b) (ts.getD i false)) := by
  have h : ∀ (F : List Int) (o : List Bool) (b : Bool), o[i]? = some b → (F.foldl setT o)[i]? = some (F.foldl (fun b x => if x = (i : Int) + 1 ∨ x = -(i : Int) - 1 then decide (0 < x) else b) b) := by
    intro F
    induction F with
    | nil => intro o b h; exact h
    | cons x F ih =>
      intro o b h
      rw [List.foldl_cons, List.foldl_cons]
      refine ih _ _ ?_
      have hil := (List.getElem?_eq_some_iff.1 h).1
      unfold setT
      by_cases hx : x = (i : Int) + 1 ∨ x = -(i : Int) - 1
      · rw [if_pos hx, if_pos (by omega), show x.natAbs - 1 = i by omega, List.getElem?_set_self hil]
      · rw [if_neg hx]
        split
        · rw [List.getElem?_set_ne (by omega), h]
        · exact h
  refine h F (padT n ts) _ ?_
  unfold padT
  have hl : (ts.take n).length = min n ts.length := List.length_take
  by_cases hit : i < ts.length
  · rw [List.getElem?_append_left (by omega), List.getElem?_take, if_pos hi, List.getElem?_eq_getElem hit]; simp [List.getD, hit]
  · rw [List.getElem?_append_right (by omega), List.getElem?_replicate, if_pos (by omega)]; simp [List.getD, List.getElem?_eq_none (by omega : ts.length ≤ i)]
def wantAt (i : Nat) (b : Bool) (x : Int) : Bool := if x = (i : Int) + 1 ∨ x = -(i : Int) - 1 then decide (0 < x) else b
theorem want_succ {F : List Int} {k i : Nat} {b : Bool} (h : k < F.length) : (F.take (k + 1)).foldl (wantAt i) b = wantAt i ((F.take k).foldl (wantAt i) b) F[k] := by
  rw [List.take_succ_eq_append_getElem h, List.foldl_append]; rfl
set_option maxRecDepth 100000 in
set_option maxHeartbeats 4000000 in
theorem walk_TrimGrows (W : World) (v0 v1 : Value) (a0 : Arg Try.prog W 29 v0) (a1 : Arg Try.prog W 40 v1) :
    Calls Try.prog 5 #[v0, v1] W fun e W' => e = .returned (.bool true) ∧ Below W.heap.size W W' := by
  obtain ⟨v, s0, s1, C, F, rfl, h0, h1, hv1, hv2⟩ := arg_trimmed a0
  obtain ⟨ts, h2⟩ := arg_slice a1 Try.underlying40 reads1_bools
  have H1 := Lib.hid h1; have H2 := Lib.hid h2
  obtain ⟨A0, c0, rfl⟩ := h0.shape
  obtain ⟨A1, c1, rfl, hm1, hat1⟩ := h1.open_
  obtain ⟨A2, c2, rfl, hm2, hat2⟩ := h2.open_
  have Hat1 := Lib.hid hat1; have Hat2 := Lib.hid hat2
  clear h0 h1 h2 a0 a1 hat1 hat2
  by_cases hl : v ≤ 100 ∧ ts.length ≤ 100 ∧ F.length ≤ 100
  case neg =>
    have hcase : 100 < v ∨ (v ≤ 100 ∧ 100 < ts.length) ∨ (v ≤ 100 ∧ ts.length ≤ 100 ∧ 100 < F.length) := by omega
    clear hl
    rcases hcase with h | ⟨h, h'⟩ | ⟨h, h', h''⟩
    all_goals
      go_enter Try.func5, Try.ntmps5
      go_wp2_with (first
        | (go_at_call 9; refine (lives_any _).mono ?_; rintro e w2 ⟨rfl, hb2⟩))
      go_ret
      exact ⟨rfl, (below_alloc _ _).trans (hb2.mono (by simp))⟩
  case pos =>
    obtain ⟨hl1, hl2, hl3⟩ := hl
    go_enter Try.func5, Try.ntmps5
    go_wp2
    go_loop [32] (fun sv => ∃ k : Nat, k ≤ F.length ∧ sv = .int .i64 k ∧ Hid (∀ x ∈ F.take k, -1000 ≤ x ∧ x ≤ 1000)) (fun sv => F.length - (intOf sv).toNat)
    case atStart => exact ⟨0, Nat.zero_le _, rfl, fun x hx => by simp at hx⟩
    case round =>
      obtain ⟨k, hkle, rfl, hinv⟩ := hrel
      by_cases hklt : k < F.length
      · obtain ⟨bk, offk, uk, rfl, hbk, hcellk, huk⟩ := Hat1.out.lt_ hklt
        obtain rfl := huk
        by_cases hx : 1000 < F[k]
        · go_wp2_with (first
            | (go_at_call 9; refine (lives_any _).mono ?_; rintro e w2 ⟨rfl, hb2⟩))
          go_ret
          exact ⟨rfl, (below_alloc _ _).trans (hb2.mono (by simp))⟩
        by_cases hy : F[k] < -1000
        · go_wp2_with (first
            | (go_at_call 9; refine (lives_any _).mono ?_; rintro e w2 ⟨rfl, hb2⟩))
          go_ret
          exact ⟨rfl, (below_alloc _ _).trans (hb2.mono (by simp))⟩
        have Hn := Lib.hid (show ∀ x ∈ F.take (k + 1), -1000 ≤ x ∧ x ≤ 1000 by
          intro x hm
          rw [List.take_succ_eq_append_getElem hklt] at hm
          rcases List.mem_append.1 hm with h | h
          · exact hinv.out x h
          · simp at h; subst h; omega)
        go_wp2
        go_round
        case rel => exact ⟨k + 1, by omega, by go_num, Hn⟩
        case measure => simp [intOf]; omega
      · obtain rfl : k = F.length := by omega
        rw [List.take_length] at hinv
        have hbx := below_alloc W (.cells #[.int .i64 v, .slice A0 C.length c0, .slice A1 F.length c1] 29)
        have Hg := Lib.hid (Grow_any v (.slice A0 C.length c0) _ _ F ts _ (RInts.stable.up H1.out hbx) (RBools.stable.up H2.out hbx) ⟨_, _, _, rfl⟩ (by omega) (fun x hx => by have := hinv.out x hx; omega))
        obtain ⟨n, hn⟩ : ∃ n : Nat, n = v.toNat := ⟨_, rfl⟩
        have hmx : (if 0 > v then (0 : Int) else v) = (n : Int) := by split <;> omega
        have Hat := Lib.hid (fun i (hi : i < n) => growT_at (F := F) (ts := ts) hi)
        have hgl := growT_length n F ts
        rw [← hn] at Hg
        obtain ⟨G, hG⟩ : ∃ G, G = growT n F ts := ⟨_, rfl⟩
        rw [← hG] at Hat hgl
        have HG := Lib.hid hG
        subst hgl
        have hnn : ((G.length : Int) != (G.length : Int)) = false := by simp
        have hx0 : (W.alloc (.cells #[.int .i64 v, .slice A0 C.length c0, .slice A1 F.length c1] 29)).cell? ⟨W.heap.size, 0, none⟩ = some (.int .i64 v) := by simp [go_sem]
        have hx2 : (W.alloc (.cells #[.int .i64 v, .slice A0 C.length c0, .slice A1 F.length c1] 29)).cell? ⟨W.heap.size, 2, none⟩ = some (.slice A1 F.length c1) := by simp [go_sem]
        have hzs : W.heap.size < (W.alloc (.cells #[.int .i64 v, .slice A0 C.length c0, .slice A1 F.length c1] 29)).heap.size := by simp
        have Hbx := Lib.hid hbx
        have Hx0 := Lib.hid hx0
        have Hx2 := Lib.hid hx2
        clear hklt hkle hn hG hx0 hx2 hbx
        go_wp2_with (first
          | (go_at_call 14
             refine Hg.out.mono ?_
             rintro e w1 ⟨s, rfl, hs, hb1⟩
             rw [← HG.out] at hs
             obtain ⟨AG, cG, rfl, hmG, hatG⟩ := hs.open_
             have HatG := Lib.hid hatG
             have hy0 := (hb1.cell (p := ⟨W.heap.size, 0, none⟩) hzs).trans Hx0.out
             have hy2 := (hb1.cell (p := ⟨W.heap.size, 2, none⟩) hzs).trans Hx2.out
             have Hbw := Lib.hid (Hbx.out.trans (hb1.mono (Nat.le_of_lt hzs)))
             clear hs hatG hb1))
        go_loop [56] (fun sv => ∃ i : Nat, i ≤ G.length ∧ sv = .int .i64 i) (fun sv => G.length - (intOf sv).toNat)
        case atStart => exact ⟨0, Nat.zero_le _, rfl⟩
        case round =>
          obtain ⟨i, hile, rfl⟩ := hrel
          by_cases hilt : i < G.length
          · obtain ⟨bi, offi, ui, rfl, hbi, hcelli, hui⟩ := (show ∃ b off u, AG = some ⟨b, off, none⟩ ∧ _ ∧ w1.cell? ⟨b, off + i, none⟩ = some u ∧ RBool w1 _ u G[i] from HatG.out.at_ RBool.stable (Ag.refl _ _) hilt)
            obtain rfl := hui
            have Hgi := Lib.hid (show G[i] = F.foldl (wantAt i) (ts.getD i false) by
              have := Hat.out i hilt
              rw [List.getElem?_eq_getElem hilt] at this
              exact Option.some.inj this)
            obtain ⟨b0, hb0⟩ : ∃ b0, b0 = ts.getD i false := ⟨_, rfl⟩
            rw [← hb0] at Hgi
            by_cases hit : i < ts.length
            · have hgd : b0 = ts[i] := by rw [hb0]; exact getD_at hit
              obtain ⟨bt, offt, ut, rfl, hbt, hcellt, hut⟩ := Hat2.out.lt_ hit
              obtain rfl := hut
              have hct := (Hbw.out.cell (p := ⟨bt, offt + i, none⟩) hbt).trans hcellt
              rw [← hgd] at hct
              clear hcellt hgd hb0
              go_wp2
              go_loop [74, 10] (fun sv bv => ∃ k : Nat, k ≤ F.length ∧ sv = .int .i64 k ∧ ∃ b, bv = .bool b ∧ Hid (b = (F.take k).foldl (wantAt i) b0)) (fun sv _ => F.length - (intOf sv).toNat)
              case atStart => exact ⟨0, Nat.zero_le _, rfl, _, rfl, rfl⟩
              case round =>
                obtain ⟨k, hkle, rfl, b, rfl, hb⟩ := hrel
                by_cases hklt : k < F.length
                · obtain ⟨bk, offk, uk, rfl, hbk, hcellk, huk⟩ := Hat1.out.lt_ hklt
                  obtain rfl := huk
                  have hck := (Hbw.out.cell (p := ⟨bk, offk + k, none⟩) hbk).trans hcellk
                  have Hs := Lib.hid (want_succ (i := i) (b := b0) hklt)
                  have hbd := hinv.out _ (List.getElem_mem hklt)
                  obtain ⟨x, hx⟩ : ∃ x, x = F[k] := ⟨_, rfl⟩
                  rw [← hx] at hck Hs hbd
                  obtain ⟨hbd1, hbd2⟩ := hbd
                  clear hcellk hx
                  by_cases h1 : x = (i : Int) + 1
                  · have e1 : (x == (i : Int) + 1) = true := by simp [h1]
                    have e3 : decide (0 < x) = true := decide_eq_true (by omega)
                    have Hw := Lib.hid (show true = wantAt i b x by unfold wantAt; rw [if_pos (.inl h1), e3])
                    clear h1
                    go_wp2
                    go_round
                    case rel => exact ⟨k + 1, by omega, by go_num, _, rfl, by rw [Hid, Hs.out, ← hb.out]; exact Hw.out⟩
                    case measure => simp [intOf]; omega
                  have e1 : (x == (i : Int) + 1) = false := by simp [h1]
                  by_cases h2 : x = -(i : Int) - 1
                  · have e2 : (x == -(i : Int) - 1) = true := by simp [h2]
                    have e3 : decide (0 < x) = false := decide_eq_false (by omega)
                    have Hw := Lib.hid (show false = wantAt i b x by unfold wantAt; rw [if_pos (.inr h2), e3])
                    clear h1 h2
                    go_wp2
                    go_round
                    case rel => exact ⟨k + 1, by omega, by go_num, _, rfl, by rw [Hid, Hs.out, ← hb.out]; exact Hw.out⟩
                    case measure => simp [intOf]; omega
                  have e2 : (x == -(i : Int) - 1) = false := by simp [h2]
                  have Hw := Lib.hid (show b = wantAt i b x by unfold wantAt; rw [if_neg (by omega)])
                  clear h1 h2
                  go_wp2
                  go_round
                  case rel => exact ⟨k + 1, by omega, by go_num, _, rfl, by rw [Hid, Hs.out, ← hb.out]; exact Hw.out⟩
                  case measure => simp [intOf]; omega
                · obtain rfl : k = F.length := by omega
                  rw [List.take_length] at hb
                  obtain rfl : b = G[i] := hb.out.trans Hgi.out.symm
                  clear hb
                  go_wp2
                  go_round
                  case rel => exact ⟨i + 1, by omega, by go_num⟩
                  case measure => simp [intOf]; omega
            · have hgd : b0 = false := by rw [hb0]; simp [List.getD, List.getElem?_eq_none (by omega : ts.length ≤ i)]
              subst hgd
              clear hb0
              go_wp2
              go_loop [74, 10] (fun sv bv => ∃ k : Nat, k ≤ F.length ∧ sv = .int .i64 k ∧ ∃ b, bv = .bool b ∧ Hid (b = (F.take k).foldl (wantAt i) false)) (fun sv _ => F.length - (intOf sv).toNat)
              case atStart => exact ⟨0, Nat.zero_le _, rfl, _, rfl, rfl⟩
              case round =>
                obtain ⟨k, hkle, rfl, b, rfl, hb⟩ := hrel
                by_cases hklt : k < F.length
                · obtain ⟨bk, offk, uk, rfl, hbk, hcellk, huk⟩ := Hat1.out.lt_ hklt
                  obtain rfl := huk
                  have hck := (Hbw.out.cell (p := ⟨bk, offk + k, none⟩) hbk).trans hcellk
                  have Hs := Lib.hid (want_succ (i := i) (b := false) hklt)
                  have hbd := hinv.out _ (List.getElem_mem hklt)
                  obtain ⟨x, hx⟩ : ∃ x, x = F[k] := ⟨_, rfl⟩
                  rw [← hx] at hck Hs hbd
                  obtain ⟨hbd1, hbd2⟩ := hbd
                  clear hcellk hx
                  by_cases h1 : x = (i : Int) + 1
                  · have e1 : (x == (i : Int) + 1) = true := by simp [h1]
                    have e3 : decide (0 < x) = true := decide_eq_true (by omega)
                    have Hw := Lib.hid (show true = wantAt i b x by unfold wantAt; rw [if_pos (.inl h1), e3])
                    clear h1
                    go_wp2
                    go_round
                    case rel => exact ⟨k + 1, by omega, by go_num, _, rfl, by rw [Hid, Hs.out, ← hb.out]; exact Hw.out⟩
                    case measure => simp [intOf]; omega
                  have e1 : (x == (i : Int) + 1) = false := by simp [h1]
                  by_cases h2 : x = -(i : Int) - 1
                  · have e2 : (x == -(i : Int) - 1) = true := by simp [h2]
                    have e3 : decide (0 < x) = false := decide_eq_false (by omega)
                    have Hw := Lib.hid (show false = wantAt i b x by unfold wantAt; rw [if_pos (.inr h2), e3])
                    clear h1 h2
                    go_wp2
                    go_round
                    case rel => exact ⟨k + 1, by omega, by go_num, _, rfl, by rw [Hid, Hs.out, ← hb.out]; exact Hw.out⟩
                    case measure => simp [intOf]; omega
                  have e2 : (x == -(i : Int) - 1) = false := by simp [h2]
                  have Hw := Lib.hid (show b = wantAt i b x by unfold wantAt; rw [if_neg (by omega)])
                  clear h1 h2
                  go_wp2
                  go_round
                  case rel => exact ⟨k + 1, by omega, by go_num, _, rfl, by rw [Hid, Hs.out, ← hb.out]; exact Hw.out⟩
                  case measure => simp [intOf]; omega
                · obtain rfl : k = F.length := by omega
                  rw [List.take_length] at hb
                  obtain rfl : b = G[i] := hb.out.trans Hgi.out.symm
                  clear hb
                  go_wp2
                  go_round
                  case rel => exact ⟨i + 1, by omega, by go_num⟩
                  case measure => simp [intOf]; omega
          · obtain rfl : i = G.length := by omega
            go_wp2_with (first
              | (go_at_call 9; refine (lives_any _).mono ?_; rintro e w2 ⟨rfl, hb2⟩))
            go_ret
            exact ⟨rfl, Hbw.out.trans (hb2.mono Hbw.out.size)⟩
end Go.Proofs.Ytdofiipckcfopaa
