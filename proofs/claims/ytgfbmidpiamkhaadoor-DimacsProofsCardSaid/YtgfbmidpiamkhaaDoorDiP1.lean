/- dimacs: the text of a number. -/
import Derived.Test.YtgfbmidpiamkhaaDoorDiW5
import Derived.Test.YtgfbmidpiamkhaaDoorFnRevB
namespace Go.Proofs.YtgfbmidpiamkhaaDoor
open Go.RowKit
open D28
namespace D28
def dg (n : Nat) : UInt8 := UInt8.ofNat (48 + n % 10)
/-- the digits, the last one first -/
def rdN (n : Nat) : List Nat := (48 + n % 10) :: (if h : 10 ≤ n then rdN (n / 10) else [])
termination_by n
decreasing_by omega
def digL (n : Nat) : Bs := ((rdN n).reverse).map UInt8.ofNat
def numL (x : Int) : Bs := if x < 0 then 45 :: digL (-x).toNat else digL x.toNat
theorem rdN_eq (n : Nat) : rdN n = (48 + n % 10) :: (if 10 ≤ n then rdN (n / 10) else []) := by
  rw [rdN]; by_cases h : 10 ≤ n <;> simp [h]
theorem rdN_lt (n : Nat) : ∀ x ∈ rdN n, 48 ≤ x ∧ x ≤ 57 := by
  induction n using Nat.strongRecOn with
  | _ n ih =>
    intro x hx
    rw [rdN_eq] at hx
    rcases List.mem_cons.1 hx with rfl | hx
    · omega
    · by_cases h : 10 ≤ n
      · rw [if_pos h] at hx; exact ih _ (by omega) x hx
      · rw [if_neg h] at hx; cases hx
theorem rdN_len (k : Nat) : ∀ n, n < 10 ^ k → (rdN n).length ≤ k + 1 := by
  induction k with
  | zero => intro n h; have : n = 0 := by simpa using h
            subst this; rw [rdN_eq]; simp
  | succ k ih =>
    intro n h
    rw [rdN_eq]
    by_cases h10 : 10 ≤ n
    · rw [if_pos h10]
      have := ih (n / 10) (by rw [Nat.pow_succ] at h; omega)
      simp; omega
    · rw [if_neg h10]; simp
end D28
theorem eB : Elem1 Tryd.prog 80 5 1 := elem1_mk (z := .int .u8 0) Tryd.underlying80 (by kernel_rfl) (by omega) rfl
theorem own_conv {w : World} {B g c : Nat} {l : List Nat} (h : w.ownsRow B 5 1 (.slice (some ⟨g, 0, none⟩) l.length c) l.length (l.map byV)) (hl : ∀ x ∈ l, x < 256) : (convert 80 9 (.slice (some ⟨g, 0, none⟩) l.length c)).run Tryd.prog w = .ok (sv (l.map UInt8.ofNat)) w := by
  have := run_convert_bytes_back (P := Tryd.prog) w 80 9 5 ⟨g, 0, none⟩ c (l.map UInt8.ofNat) Tryd.underlying80 Tryd.underlying5 Tryd.underlying9 (by
    intro j hj
    have hj' : j < l.length := by simpa using hj
    rw [add_none, Nat.zero_add, own_byCell h hj']
    have := hl l[j] (List.getElem_mem hj')
    rw [List.getElem_map]
    have e : (UInt8.ofNat l[j]).toNat = l[j] := by simp; omega
    rw [e]; simp [List.getD, hj'])
  rw [List.length_map] at this
  exact this
set_option maxRecDepth 100000 in
set_option maxHeartbeats 4000000 in
theorem digits_any (n0 : Nat) (w : World) (hn : n0 < 18446744073709551616) : Calls Tryd.prog 44 #[.int .u64 n0] w fun e w' => e = .returned (sv (digL n0)) ∧ Below w.heap.size w w' := by
  obtain ⟨B, hB⟩ : ∃ B, B = w.heap.size := ⟨_, rfl⟩
  rw [← hB]
  have HB := Lib.hid hB
  clear hB
  have h8 : IntKind.u8.wrap ((n0 : Int) % 10) = (n0 : Int) % 10 := by rw [IntKind.wrap_u8]; omega
  have h9 : IntKind.u8.wrap (48 + (n0 : Int) % 10) = 48 + (n0 : Int) % 10 := by rw [IntKind.wrap_u8]; omega
  go_enter Tryd.func44, Tryd.ntmps44
  go_wp2
  have Ho := Lib.hid (World.ownsRow_lit (base := w.heap.size) (e := 5) (size := 1) w #[.int .u8 (48 + (n0 : Int) % 10)] 1 (Nat.le_refl _) (by unfold maxLen; omega) rfl)
  have Hb := Lib.hid (below_alloc w (.cells #[.int .u8 (48 + (n0 : Int) % 10)] 5))
  have h20 := rdN_len 20 n0 (by omega)
  rw [← HB.out] at Ho Hb ⊢
  go_loopw [0, 3] (fun nv bv wr => ∃ (n : Nat) (l : List Nat) (g c : Nat), n < 18446744073709551616 ∧ nv = .int .u64 n ∧ bv = .slice (some ⟨g, 0, none⟩) l.length c ∧ Hid (l ++ (if 10 ≤ n then rdN (n / 10) else []) = rdN n0) ∧ Hid (wr.ownsRow B 5 1 (.slice (some ⟨g, 0, none⟩) l.length c) l.length (l.map byV)) ∧ Hid (Below B w wr)) (fun nv _ _ => (intOf nv).toNat)
  case atStart => exact ⟨n0, [48 + n0 % 10], B, 1, hn, rfl, rfl, by rw [rdN_eq n0]; rfl, Lib.hid (by have := Ho.out; simpa [byV] using this), Hb⟩
  case round =>
    obtain ⟨n, l, g, c, hn, rfl, rfl, HL, HO, HW⟩ := hrel
    have hBw : B ≤ wr.heap.size := by have := HW.out.size; have := HB.out; omega
    have hll : l.length ≤ 21 := by have := congrArg List.length HL.out; simp at this; omega
    by_cases h10 : 10 ≤ n
    · have hd : ((n : Int) / 10) = ((n / 10 : Nat) : Int) := by omega
      obtain ⟨q, hq⟩ : ∃ q, q = n / 10 := ⟨_, rfl⟩
      have HL2 := Lib.hid (show (l ++ [48 + q % 10]) ++ (if 10 ≤ q then rdN (q / 10) else []) = rdN n0 by
        have := HL.out
        rw [if_pos h10, ← hq, rdN_eq q] at this
        simpa using this)
      have hq9 : q < n := by omega
      have hqm : q < 18446744073709551616 := by omega
      have h8 : IntKind.u8.wrap ((q : Int) % 10) = (q : Int) % 10 := by rw [IntKind.wrap_u8]; omega
      have h9 : IntKind.u8.wrap (48 + (q : Int) % 10) = 48 + (q : Int) % 10 := by rw [IntKind.wrap_u8]; omega
      rw [← hq] at hd
      clear hq HL
      go_wp2_with (at_builtin; refine wpList_push rfl _ _ _ rfl eB (v := .slice (some ⟨g, 0, none⟩) l.length c) rfl (HO.out.alloc _) wr.heap.size (.int .u8 (48 + (q : Int) % 10)) rfl (by simp [go_sem]) rfl (by omega) (by simp; omega) ?_; intro v1 w5 hown1 hg1 hat1)
      obtain ⟨g2, c2, rfl, hBg, -⟩ := hown1.form (by omega)
      have HW2 := Lib.hid ((HW.out.alloc hBw _).grown hg1 (by simp; omega) (fun q hq => (HO.out.lt q hq).1))
      have HO2 := Lib.hid (show w5.ownsRow B 5 1 (.slice (some ⟨g2, 0, none⟩) (l ++ [48 + q % 10]).length c2) (l ++ [48 + q % 10]).length ((l ++ [48 + q % 10]).map byV) by simpa [byV] using hown1)
      clear hown1 hg1 hat1
      go_wp2
      go_roundw
      case rel => exact ⟨q, l ++ [48 + q % 10], g2, c2, hqm, rfl, by simp, HL2, HO2, HW2⟩
      case measure => simp [intOf]; omega
    · have Hl := Lib.hid (show l = rdN n0 by have := HL.out; rw [if_neg h10] at this; simpa using this)
      have HR := Lib.hid (ReverseB_any (.slice (some ⟨g, 0, none⟩) l.length c) l B wr HO.out (by omega))
      have h10' : ¬ ((10 : Int) ≤ (n : Int)) := by omega
      clear h10 HL
      go_wp2_with (go_at_call 55; refine HR.out.mono ?_; rintro e w2 ⟨rfl, ho, hb⟩; have HW2 := Lib.hid (HW.out.trans hb); have hcv := own_conv (l := l.reverse) (by rw [List.length_reverse]; exact ho) (fun x hx => by have h1 := rdN_lt n0 x (by rw [← Hl.out]; simpa using hx); omega); rw [List.length_reverse] at hcv; clear ho hb)
      go_ret
      refine ⟨?_, HW2.out⟩
      rw [Hl.out, digL, List.map_reverse]; rfl
end Go.Proofs.YtgfbmidpiamkhaaDoor
