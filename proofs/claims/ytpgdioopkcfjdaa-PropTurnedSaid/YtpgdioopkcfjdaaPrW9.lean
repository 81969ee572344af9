/- The reference's Number: a number's digits. -/
import Derived.Test.YtpgdioopkcfjdaaPrW8
import Derived.Test.YtpgdioopkcfjdaaPrD5
import Derived.Deep.RegionLaw
namespace Go.Proofs.Ytpgdioopkcfjdaa
open Go.RowKit

theorem conv_one (w : World) (b : Nat) (c : UInt8) (hc : w.cell? ⟨b, 0, none⟩ = some (.int .u8 (c.toNat : Nat))) : (convert 46 9 (.slice (some ⟨b, 0, none⟩) 1 1)).run Try.prog w = .ok (sv [c]) w := by
  have h := run_convert_bytes_back (P := Try.prog) w 46 9 5 ⟨b, 0, none⟩ 1 [c] Try.underlying46 Try.underlying5 Try.underlying9 (by
    intro j hj
    have : j = 0 := by simpa using hj
    subst this
    rw [add_none]; exact hc)
  exact h
theorem u8n {x : Int} (h0 : 0 ≤ x) (h1 : x < 256) : IntKind.u8.wrap x = x := by
  unfold IntKind.wrap
  simp [IntKind.bits, IntKind.signed]
  omega
theorem ofNat_n {k : Nat} (h : k < 256) : ((UInt8.ofNat k).toNat : Int) = (k : Nat) := by
  rw [UInt8.toNat_ofNat', Nat.mod_eq_of_lt h]
set_option maxRecDepth 100000 in
theorem Number_small (k : Nat) (w : World) (hk : k < 10) : Calls Try.prog 20 #[.int .i64 (k : Nat)] w fun e w' => e = .returned (sv (digs k)) ∧ Below w.heap.size w w' := by
  have hd : digs k = [UInt8.ofNat (48 + k)] := by unfold digs; rw [if_pos hk]
  have hn := ofNat_n (k := 48 + k) (by omega)
  have hw := u8n (x := 48 + (k : Nat)) (by omega) (by omega)
  have hcv := conv_one (w.alloc (.cells #[.int .u8 (48 + (k : Nat))] 5)) w.heap.size (UInt8.ofNat (48 + k)) (by
    rw [hn]
    have := cell_of_row (w.alloc (.cells #[.int .u8 (48 + (k : Nat))] 5)) w.heap.size 0 _ _ (0, 0) (heap_alloc_new w _)
    rw [this]; simp)
  rw [hd]
  have HB := Lib.hid (below_alloc w (.cells #[.int .u8 (48 + (k : Nat))] 5))
  clear hd hn
  generalize UInt8.ofNat (48 + k) = c at *
  go_enter Try.func20, Try.ntmps20
  go_wp2
  go_ret
  exact ⟨rfl, HB.out⟩
theorem cell_after {w w3 : World} {v : Value} {t : TypeId} (hb : Below (w.alloc (.cells #[v] t)).drew.heap.size (w.alloc (.cells #[v] t)).drew w3) : w3.cell? ⟨w.heap.size, 0, none⟩ = some v :=
  (hb.cell (p := ⟨w.heap.size, 0, none⟩) (by simp [World.drew])).trans (one_new w v t)
theorem below_after {w w3 : World} {o : Obj} (hb : Below (w.alloc o).drew.heap.size (w.alloc o).drew w3) : Below w.heap.size w w3 :=
  (below_alloc w o).drew.trans (hb.mono (by show w.heap.size ≤ (w.alloc o).heap.size; rw [World.size_alloc]; omega))
theorem below_before {w w3 : World} {o : Obj} (hb : Below w.drew.heap.size w.drew w3) : Below w.heap.size w (w3.alloc o) := by
  have h : Below w.heap.size w w3 := (Below.refl _ w).drew.trans hb
  exact h.alloc h.size o
theorem Number_any (k : Nat) (w : World) (hk : k < 100) : Calls Try.prog 20 #[.int .i64 (k : Nat)] w fun e w' => e = .returned (sv (digs k)) ∧ Below w.heap.size w w' := by
  by_cases h10 : k < 10
  · exact Number_small k w h10
  have hd : digs k = [UInt8.ofNat (48 + k / 10), UInt8.ofNat (48 + k % 10)] := by unfold digs; rw [if_neg h10]
  have hdd : digs (k / 10) = [UInt8.ofNat (48 + k / 10)] := by unfold digs; rw [if_pos (by omega)]
  have hn := ofNat_n (k := 48 + k % 10) (by omega)
  have hw := u8n (x := 48 + (k % 10 : Nat)) (by omega) (by omega)
  have H1 := Lib.hid (fun w => Number_small (k / 10) w (by omega))
  rw [hdd] at H1
  rw [hd]
  have q1 : Int.tdiv (k : Nat) 10 = ((k / 10 : Nat) : Int) := by rw [Int.tdiv_eq_ediv_of_nonneg (by omega)]; omega
  have q2 : Int.tmod (k : Nat) 10 = ((k % 10 : Nat) : Int) := by rw [Int.tmod_eq_emod_of_nonneg (by omega)]; omega
  have hge : 10 ≤ k := by omega
  clear hd hdd h10
  generalize UInt8.ofNat (48 + k / 10) = c1 at *
  generalize UInt8.ofNat (48 + k % 10) = c at *
  obtain ⟨K1, hK1⟩ : ∃ K1 : Nat, K1 = k / 10 := ⟨_, rfl⟩
  obtain ⟨K2, hK2⟩ : ∃ K2 : Nat, K2 = k % 10 := ⟨_, rfl⟩
  rw [← hK1] at H1 q1
  rw [← hK2] at hn hw q2
  have hK2' : K2 < 10 := by omega
  have hK1' : K1 < 10 := by omega
  have g1 : IntKind.i64.wrap ((K1 : Nat) : Int) = (K1 : Nat) := wrap_nat rfl (by omega)
  have g2 : IntKind.i64.wrap (48 + ((K2 : Nat) : Int)) = 48 + (K2 : Nat) := by rw [IntKind.wrap_i64]; omega
  have hcv := fun (w : World) (b : Nat) (hc : w.cell? ⟨b, 0, none⟩ = some (.int .u8 (48 + (K2 : Nat)))) => conv_one w b c (by rw [hn]; rw [hc]; simp)
  clear hK1 hK2
  have x1 := fun w => (run_string_add_sum (P := Try.prog) (w := w) (bz [c1]) (bz [c]) (by rw [bz_size, bz_size]; show 1 + 1 ≤ _; decide)).trans (show _ = Result.ok (sv [c1, c]) w by rw [bz_append]; rfl)
  go_enter Try.func20, Try.ntmps20
  go_wp2_with fail
  go_region_law (go_simp; go_at_call 20; with_reducible refine (H1.out _).mono ?_; rintro e w3 ⟨rfl, hb3⟩; (first | (have hcx := hcv w3 w.heap.size (cell_after hb3)) | skip); have HB3 := Lib.hid hb3; clear hb3)
  all_goals
    go_wp2
    go_ret
    refine ⟨rfl, ?_⟩
    first
      | exact below_before HB3.out
      | exact below_after HB3.out
end Go.Proofs.Ytpgdioopkcfjdaa
