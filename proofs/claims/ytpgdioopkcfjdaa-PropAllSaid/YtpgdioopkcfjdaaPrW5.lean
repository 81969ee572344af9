/- Where a name's property stands: the reference's At; slices.IndexFunc with prop.at's closure; at; Get. -/
import Derived.Test.YtpgdioopkcfjdaaPrP
namespace Go.Proofs.Ytpgdioopkcfjdaa
open Go.RowKit

set_option maxHeartbeats 1000000 in
theorem At_any (s : Value) (L : PL) (n : Bs) (w : World) (hs : RProps w (Lt w.heap.size) s L) : Calls Try.prog 19 #[s, sv n] w fun e w' => e = .returned (.int .i64 (idxP L n)) ∧ Below w.heap.size w w' := by
  obtain ⟨A, c, rfl, hm, hat⟩ := hs.open_
  have Hat := Lib.hid hat; clear hat
  obtain ⟨B, hB⟩ : ∃ B, B = w.heap.size := ⟨_, rfl⟩
  have HBe := Lib.hid hB
  rw [← hB] at Hat ⊢
  clear hB
  go_enter Try.func19, Try.ntmps19
  go_wp2
  go_loopw [9] (fun kv wr => ∃ k : Nat, k ≤ L.length ∧ kv = .int .i64 k ∧ Hid ((L.take k).any (fun p => p.1 == n) = false) ∧ Hid (Below B w wr)) (fun kv _ => L.length - (intOf kv).toNat)
  case atStart => exact ⟨0, Nat.zero_le _, rfl, Lib.hid rfl, Lib.hid (Below.refl _ _)⟩
  case round =>
    obtain ⟨k, hkle, rfl, Hn, HB⟩ := hrel
    rcases Nat.lt_or_ge k L.length with hk | hk
    · obtain ⟨b, off, rfl, hb, c0, c1⟩ := prop_cells (Hat.out.agree (VCells.stable _) (ag_of_below HB.out) (fun _ h => h)) hk
      have Hbn := Lib.hid (any_take_succ' (fun p : Bs × Bs => p.1 == n) L k hk)
      have hsz : B ≤ wr.heap.size := by rw [HBe.out]; exact HB.out.size
      have HB2 := Lib.hid (fun o => HB.out.alloc hsz o)
      cases hq : (L[k].1 == n) with
      | true =>
        have he : ((bz L[k].1).toList == (bz n).toList) = true := by rw [bz_beq]; exact hq
        have Hi := Lib.hid (show idxP L n = k by unfold idxP; rw [findIdx_hit hk Hn.out hq])
        clear hq
        go_wp2
        go_ret
        exact ⟨ret_int Hi.out.symm, HB2.out _⟩
      | false =>
        have he : ((bz L[k].1).toList == (bz n).toList) = false := by rw [bz_beq]; exact hq
        have Hn2 := Lib.hid (show (L.take (k + 1)).any (fun p => p.1 == n) = false by rw [Hbn.out, Hn.out]; simpa using hq)
        clear hq
        go_wp2
        go_roundw
        case rel => exact ⟨k + 1, by omega, by go_num, Hn2, Lib.hid (HB2.out _)⟩
        case measure => simp [intOf]; omega
    · obtain rfl : k = L.length := by omega
      have Hi := Lib.hid (show idxP L n = -1 by unfold idxP; rw [findIdx_miss Hn.out])
      go_wp2
      go_ret
      exact ⟨ret_int Hi.out.symm, HB.out⟩
theorem at1_any (p : Bs × Bs) (n : Bs) (b : Nat) (w : World) (hc : w.cell? ⟨b, 0, none⟩ = some (sv n)) : Calls Try.prog 53 #[.agg #[sv p.1, sv p.2], .pointer (some ⟨b, 0, none⟩)] w fun e w' => e = .returned (.bool (p.1 == n)) ∧ Below w.heap.size w w' := by
  have hb := World.block_lt_of_cell? w ⟨b, 0, none⟩ hc
  have hne : ¬ b = w.heap.size := by simp at hb; omega
  have he := bz_beq p.1 n
  go_enter Try.func53, Try.ntmps53
  go_wp2
  go_ret
  exact ⟨ret_bool rfl, below_alloc _ _⟩
theorem callFunc_run {P : Program} {f : FuncId} {fn : Func} (hf : P.funcs[f]? = some fn) (hn : (fn.name == "runtime.NumGoroutine") = false) (hb : fn.body.isNone = false) (args : Array Value) (w : World) : (callFunc f args).run P w = .ok (.enter f args) w := by
  cases hc : fn.body with
  | none => simp [hc] at hb
  | some c => simp at hn; simp [callFunc, program, Sem.run, hf, hc, hn]
theorem callFunc_at1 : ∀ (args : Array Value) (w : World), (callFunc 53 args).run Try.prog w = .ok (.enter 53 args) w := callFunc_run Try.func53 (by kernel_rfl) (by kernel_rfl)
set_option maxHeartbeats 1000000 in
theorem IndexFunc_any (s : Value) (L : PL) (n : Bs) (q : Nat) (w : World) (hs : RProps w (Lt w.heap.size) s L) (hc : w.cell? ⟨q, 0, none⟩ = some (sv n)) :
    Calls Try.prog 52 #[s, .func (.func 53) #[] #[.pointer (some ⟨q, 0, none⟩)]] w fun e w' => e = .returned (.int .i64 (idxP L n)) ∧ Below w.heap.size w w' := by
  obtain ⟨A, c, rfl, hm, hat⟩ := hs.open_
  have Hat := Lib.hid hat; clear hat
  have Hcq := Lib.hid hc
  have hq0 : q < w.heap.size := World.block_lt_of_cell? w ⟨q, 0, none⟩ hc
  have Hq0 := Lib.hid hq0
  have hcf := callFunc_at1
  clear hc hs
  obtain ⟨B, hB⟩ : ∃ B, B = w.heap.size := ⟨_, rfl⟩
  have HBe := Lib.hid hB
  rw [← hB] at Hat Hq0 ⊢
  clear hB hq0
  go_enter Try.func52, Try.ntmps52
  go_wp2
  go_loopw [8] (fun kv wr => ∃ k : Nat, k ≤ L.length ∧ kv = .int .i64 k ∧ Hid ((L.take k).any (fun p => p.1 == n) = false) ∧ Hid (Below B w wr)) (fun kv _ => L.length - (intOf kv).toNat)
  case atStart => exact ⟨0, Nat.zero_le _, rfl, Lib.hid rfl, Lib.hid (Below.refl _ _)⟩
  case round =>
    obtain ⟨k, hkle, rfl, Hn, HB⟩ := hrel
    rcases Nat.lt_or_ge k L.length with hk | hk
    · obtain ⟨b, off, rfl, hb, c0, c1⟩ := prop_cells (Hat.out.agree (VCells.stable _) (ag_of_below HB.out) (fun _ h => h)) hk
      have Hbn := Lib.hid (any_take_succ' (fun p : Bs × Bs => p.1 == n) L k hk)
      have hsz : B ≤ wr.heap.size := by rw [HBe.out]; exact HB.out.size
      have H1 := Lib.hid (at1_any L[k] n q wr ((HB.out.cell (p := ⟨q, 0, none⟩) Hq0.out).trans Hcq.out))
      cases hq : (L[k].1 == n) with
      | true =>
        have Hi := Lib.hid (show idxP L n = k by unfold idxP; rw [findIdx_hit hk Hn.out hq])
        rw [hq] at H1
        clear hq
        go_wp2_with fail
        with_reducible refine H1.out.mono ?_
        rintro e w1 ⟨rfl, hb1⟩
        have HB1 := Lib.hid (HB.out.trans (hb1.mono hsz))
        clear hb1
        go_wp2
        go_ret
        exact ⟨ret_int Hi.out.symm, HB1.out⟩
      | false =>
        have Hn2 := Lib.hid (show (L.take (k + 1)).any (fun p => p.1 == n) = false by rw [Hbn.out, Hn.out]; simpa using hq)
        rw [hq] at H1
        clear hq
        go_wp2_with fail
        with_reducible refine H1.out.mono ?_
        rintro e w1 ⟨rfl, hb1⟩
        have HB1 := Lib.hid (HB.out.trans (hb1.mono hsz))
        clear hb1
        go_wp2
        go_roundw
        case rel => exact ⟨k + 1, by omega, by go_num, Hn2, HB1⟩
        case measure => simp [intOf]; omega
    · obtain rfl : k = L.length := by omega
      have Hi := Lib.hid (show idxP L n = -1 by unfold idxP; rw [findIdx_miss Hn.out])
      go_wp2
      go_ret
      exact ⟨ret_int Hi.out.symm, HB.out⟩
theorem atL_any (s : Value) (L : PL) (n : Bs) (w : World) (hs : RProps w (Lt w.heap.size) s L) : Calls Try.prog 39 #[s, sv n] w fun e w' => e = .returned (.int .i64 (idxP L n)) ∧ Below w.heap.size w w' := by
  have hmf : ∀ (fn : Fn) (first cap : Array Value) (w : World), (Instr.makeFunc fn first cap).run Try.prog w = .ok (.func fn first cap) w := fun _ _ _ _ => rfl
  have Hb := Lib.hid (below_alloc w (.cells #[sv n] 9))
  have H1 := Lib.hid (IndexFunc_any s L n w.heap.size (w.alloc (.cells #[sv n] 9)) (RProps.stable.up hs Hb.out) (one_new _ _ _))
  obtain ⟨A, c, rfl, hm, hat⟩ := hs.open_
  clear hat
  go_enter Try.func39, Try.ntmps39
  go_wp2_with (go_at_call 52; with_reducible refine H1.out.mono ?_; rintro e w1 ⟨rfl, hb1⟩)
  go_ret
  exact ⟨rfl, Hb.out.trans (hb1.mono (by simp))⟩
theorem Get_any (s : Value) (L : PL) (n : Bs) (w : World) (hs : RProps w (Lt w.heap.size) s L) : Calls Try.prog 25 #[s, sv n] w fun e w' => e = .returned (.tuple #[sv ((lookP L n).getD []), .bool (lookP L n).isSome]) ∧ Below w.heap.size w w' := by
  have H1 := Lib.hid (atL_any s L n w hs)
  obtain ⟨A, c, rfl, hm, hat⟩ := hs.open_
  have Hat := Lib.hid hat
  clear hat hs
  rcases lookP_idx L n with ⟨i, hi, hix, hlk, -⟩ | ⟨hix, hlk⟩
  · rw [hix] at H1
    have Hlk := Lib.hid hlk
    clear hix hlk
    obtain ⟨b, off, rfl, hb, -, -⟩ := prop_cells Hat.out hi
    go_enter Try.func25, Try.ntmps25
    go_wp2_with (go_at_call 39; with_reducible refine H1.out.mono ?_; rintro e w1 ⟨rfl, hb1⟩; obtain ⟨c0, c1⟩ := prop_again (Hat.out.agree (VCells.stable _) (ag_of_below hb1) (fun _ h => h)) hi)
    go_ret2
    exact ⟨by rw [Hlk.out]; rfl, hb1⟩
  · rw [hix] at H1
    have Hlk := Lib.hid hlk
    clear hix hlk
    go_enter Try.func25, Try.ntmps25
    go_wp2_with (go_at_call 39; with_reducible refine H1.out.mono ?_; rintro e w1 ⟨rfl, hb1⟩)
    go_ret2
    exact ⟨by rw [Hlk.out]; rfl, hb1⟩
end Go.Proofs.Ytpgdioopkcfjdaa
