/- Over, SameProps, the law's few. -/
import Derived.Test.YtpgdioopkcfjdaaPrW6
import Derived.Test.YtpgdioopkcfjdaaPrW1
namespace Go.Proofs.Ytpgdioopkcfjdaa
open Go.RowKit

def overP (L M : PL) : PL := M.foldl (fun a p => putP a p.1 p.2) L
theorem overP_succ (L M : PL) (k : Nat) (h : k < M.length) : overP L (M.take (k + 1)) = putP (overP L (M.take k)) M[k].1 M[k].2 := by
  unfold overP
  rw [List.take_succ_eq_append_getElem h, List.foldl_append]; rfl
theorem overP_length (L : PL) : ∀ (M : PL), (overP L M).length ≤ L.length + M.length := by
  intro M
  induction M generalizing L with
  | nil => exact Nat.le_refl _
  | cons p M ih =>
    show (overP (putP L p.1 p.2) M).length ≤ _
    have := ih (putP L p.1 p.2)
    have := putP_length L p.1 p.2
    simp
    omega
set_option maxHeartbeats 1000000 in
theorem Over_any (s t : Value) (L M : PL) (w : World) (hs : RProps w (Lt w.heap.size) s L) (ht : RProps w (Lt w.heap.size) t M) (hl : L.length ≤ 1000) (hm : M.length ≤ 1000) :
    Calls Try.prog 27 #[s, t] w fun e w' => ∃ u, e = .returned u ∧ RProps w' (Lt w'.heap.size) u (overP L M) ∧ Below w.heap.size w w' := by
  have H1 := Lib.hid (Clone_any s L w hs (by omega))
  obtain ⟨A, c, rfl, hm', hat⟩ := ht.open_
  have Hat := Lib.hid hat
  clear hat hs ht
  obtain ⟨B, hB⟩ : ∃ B, B = w.heap.size := ⟨_, rfl⟩
  have HBe := Lib.hid hB
  rw [← hB] at Hat H1 ⊢
  clear hB
  obtain ⟨S, hS⟩ : ∃ S, S = s := ⟨_, rfl⟩
  rw [← hS] at H1 ⊢
  clear hS
  go_enter Try.func27, Try.ntmps27
  go_wp2_with (go_at_call 40; with_reducible refine H1.out.mono ?_; rintro e w1 ⟨u1, rfl, ho, hb1⟩; have HR1 := Lib.hid (props_of_own ho fun g hg => (ho.lt g hg).2); have HB1 := Lib.hid hb1; clear ho hb1)
  go_loopw [12, 5] (fun kv lv wr => ∃ k : Nat, k ≤ M.length ∧ kv = .int .i64 k ∧ Hid (RProps wr (Lt wr.heap.size) lv (overP L (M.take k))) ∧ Hid (Below B w wr)) (fun kv _ _ => M.length - (intOf kv).toNat)
  case atStart => exact ⟨0, Nat.zero_le _, rfl, HR1, HB1⟩
  case round =>
    obtain ⟨lv, hlv⟩ : ∃ lv, lv = u5 := ⟨_, rfl⟩
    rw [← hlv] at hrel ⊢
    clear hlv
    obtain ⟨k, hkle, rfl, HR, HB⟩ := hrel
    rcases Nat.lt_or_ge k M.length with hk | hk
    · obtain ⟨b, off, rfl, hb, c0, c1⟩ := prop_cells (Hat.out.agree (VCells.stable _) (ag_of_below HB.out) (fun _ h => h)) hk
      have hsz : B ≤ wr.heap.size := by rw [HBe.out]; exact HB.out.size
      have H2 := Lib.hid (Put_any lv (overP L (M.take k)) M[k].1 M[k].2 (wr.alloc (.cells #[sv M[k].1, sv M[k].2] 42)) (RProps.stable.up HR.out (below_alloc _ _)) (by have := overP_length L (M.take k); simp at this; omega))
      go_wp2_with (go_at_call 28; with_reducible refine H2.out.mono ?_; rintro e w2 ⟨u2, rfl, hr2, hb2⟩; have HR2 := Lib.hid hr2; have HB2 := Lib.hid hb2; clear hr2 hb2)
      go_roundw
      case rel => exact ⟨k + 1, by omega, by go_num, by rw [overP_succ _ _ _ hk]; exact HR2, Lib.hid ((HB.out.alloc hsz _).trans (HB2.out.mono (by simp; omega)))⟩
      case measure => simp [intOf]; omega
    · obtain rfl : k = M.length := by omega
      go_wp2
      go_ret
      have h := HR.out
      rw [List.take_length] at h
      exact ⟨_, rfl, h, HB.out⟩
theorem take_succ_eq {a b : PL} {k : Nat} (h : k < a.length) (hl : a.length = b.length) (ht : a.take k = b.take k) : a.take (k + 1) = b.take (k + 1) ↔ a[k] = b[k] := by
  rw [List.take_succ_eq_append_getElem h, List.take_succ_eq_append_getElem (show k < b.length by omega), ht]
  simp only [List.append_cancel_left_eq, List.cons.injEq, and_true]
set_option maxHeartbeats 1000000 in
theorem SameProps_any (s t : Value) (L M : PL) (w : World) {B : Nat} (hs : RProps w (Lt B) s L) (ht : RProps w (Lt B) t M) :
    Calls Try.prog 24 #[s, t] w fun e w' => e = .returned (.bool (decide (L = M))) ∧ Below w.heap.size w w' := by
  obtain ⟨A, c, rfl, hm, hat⟩ := hs.open_
  obtain ⟨A2, c2, rfl, hm2, hat2⟩ := ht.open_
  have Hat := Lib.hid hat
  have Hat2 := Lib.hid hat2
  clear hat hat2 hs ht
  rcases Nat.decEq L.length M.length with hne | heq
  · have hb : (((L.length : Nat) : Int) != (M.length : Nat)) = true := bne_iff_ne.2 (by omega)
    have Hd := Lib.hid (show decide (L = M) = false by simp; intro e; exact hne (by rw [e]))
    clear hne
    go_enter Try.func24, Try.ntmps24
    go_wp2
    go_ret
    exact ⟨ret_bool Hd.out.symm, Below.refl _ _⟩
  · have hb : (((L.length : Nat) : Int) != (M.length : Nat)) = false := by rw [heq]; simp
    go_enter Try.func24, Try.ntmps24
    go_wp2
    clear hb
    go_loopw [13] (fun kv wr => ∃ k : Nat, k ≤ L.length ∧ kv = .int .i64 k ∧ Hid (L.take k = M.take k) ∧ Hid (∃ n, wr = w.drewN n)) (fun kv _ => L.length - (intOf kv).toNat)
    case atStart => exact ⟨0, Nat.zero_le _, rfl, Lib.hid rfl, Lib.hid ⟨0, rfl⟩⟩
    case round =>
      obtain ⟨k, hkle, rfl, HT, HW⟩ := hrel
      obtain ⟨nd, rfl⟩ := HW.out
      rcases Nat.lt_or_ge k L.length with hk | hk
      · have hk2 : k < M.length := by omega
        obtain ⟨b, off, rfl, hb, c0, c1⟩ := prop_cells Hat.out hk
        obtain ⟨b2, off2, rfl, hb2, d0, d1⟩ := prop_cells Hat2.out hk2
        have Hts := Lib.hid (take_succ_eq hk heq HT.out)
        have Hff := Lib.hid (fun (h : L[k] ≠ M[k]) => show decide (L = M) = false by simp; intro e; apply h; subst e; rfl)
        cases q0 : (L[k].1 == M[k].1) with
        | false =>
          have e0 : ((bz L[k].1).toList == (bz M[k].1).toList) = false := by rw [bz_beq]; exact q0
          have Hd := Lib.hid (Hff.out (fun e => by rw [e] at q0; simp at q0))
          clear q0
          go_wp2
          go_quiet (fail)
          go_wp2
          go_ret
          exact ⟨ret_bool Hd.out.symm, below_drewN (below_drewN (Below.refl _ _) _) _⟩
        | true =>
          cases q1 : (L[k].2 == M[k].2) with
          | false =>
            have e0 : ((bz L[k].1).toList == (bz M[k].1).toList) = true := by rw [bz_beq]; exact q0
            have e1 : ((bz L[k].2).toList == (bz M[k].2).toList) = false := by rw [bz_beq]; exact q1
            have Hd := Lib.hid (Hff.out (fun e => by rw [e] at q1; simp at q1))
            clear q0 q1
            go_wp2
            go_quiet (fail)
            go_wp2
            go_ret
            exact ⟨ret_bool Hd.out.symm, below_drewN (below_drewN (Below.refl _ _) _) _⟩
          | true =>
            have e0 : ((bz L[k].1).toList == (bz M[k].1).toList) = true := by rw [bz_beq]; exact q0
            have e1 : ((bz L[k].2).toList == (bz M[k].2).toList) = true := by rw [bz_beq]; exact q1
            have Hn := Lib.hid (Hts.out.2 (Prod.ext (by simpa using q0) (by simpa using q1)))
            clear q0 q1
            go_wp2
            go_quiet (fail)
            go_wp2
            go_roundw
            case rel => exact ⟨k + 1, by omega, by go_num, Hn, Lib.hid ⟨_, rfl⟩⟩
            case measure => simp [intOf]; omega
      · obtain rfl : k = L.length := by omega
        have Hd := Lib.hid (show decide (L = M) = true by
          have h := HT.out
          rw [List.take_length, heq, List.take_length] at h
          simpa using h)
        go_wp2
        go_ret
        exact ⟨ret_bool Hd.out.symm, below_drewN (Below.refl _ _) _⟩
end Go.Proofs.Ytpgdioopkcfjdaa
