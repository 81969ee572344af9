/- versions; projects, keys, patterns that may be. -/
import Derived.Test.YtldhgdoeehnbjaaDoorCoW2
namespace Go.Proofs.YtldhgdoeehnbjaaDoor
open Go.RowKit
open C01

def txt (l : List UInt8) : ByteArray := ⟨l.toArray⟩
theorem txt_size (l : List UInt8) : (txt l).size = l.length := by simp [txt, ByteArray.size]
theorem txt_append (a b : List UInt8) : txt a ++ txt b = txt (a ++ b) := by
  apply ByteArray.ext; apply Array.ext'; simp [txt]
def zB (z : Int) : UInt8 := UInt8.ofNat z.toNat
theorem zB_toNat {z : Int} (h0 : 0 ≤ z) (h1 : z < 256) : ((zB z).toNat : Int) = z := by
  unfold zB
  have h : z.toNat < 256 := by omega
  rw [UInt8.toNat_ofNat', Nat.mod_eq_of_lt h]
  omega
theorem conv_bytes (w : World) (z : List Int) (hz : ∀ x ∈ z, 0 ≤ x ∧ x < 256) : (convert 62 9 (.slice (some ⟨w.heap.size, 0, none⟩) z.length z.length)).run Tryd.prog (w.alloc (.cells (z.map fun b => Value.int .u8 b).toArray 5)) = .ok (.string (txt (z.map zB))) (w.alloc (.cells (z.map fun b => Value.int .u8 b).toArray 5)) := by
  have h := run_convert_bytes_back (P := Tryd.prog) (w.alloc (.cells (z.map fun b => Value.int .u8 b).toArray 5)) 62 9 5 ⟨w.heap.size, 0, none⟩ z.length (z.map zB) Tryd.underlying62 Tryd.underlying5 Tryd.underlying9 (by
    intro j hj
    have hj' : j < z.length := by simpa using hj
    rw [add_none, cell_of_row _ _ _ _ _ (0, 0) (heap_alloc_new w _)]
    simp only [Nat.zero_add, List.getElem?_toArray, List.getElem?_map, List.getElem?_eq_getElem hj', Option.map_some, List.getElem_map]
    obtain ⟨h0, h1⟩ := hz _ (List.getElem_mem hj')
    rw [zB_toNat h0 h1])
  rw [List.length_map] at h
  exact h
theorem conv_b1 (w : World) (a : Int) (h : 0 ≤ a ∧ a < 256) : (convert 62 9 (.slice (some ⟨w.heap.size, 0, none⟩) 1 1)).run Tryd.prog (w.alloc (.cells #[.int .u8 a] 5)) = .ok (.string (txt [zB a])) (w.alloc (.cells #[.int .u8 a] 5)) :=
  conv_bytes w [a] (by simpa using h)

theorem con_all : ∀ x : Fin 256, Lib.contains [46, 45, 95, 43] [zB x.val] = ((x.val == 46) || (x.val == 45) || (x.val == 95) || (x.val == 43)) := by decide +kernel
set_option maxHeartbeats 2000000 in
theorem May_any (s : ByteArray) (m : Int) (w : World) (hs : s.size ≤ 1000000) (hm : w.cell? ⟨0, 0, none⟩ = some (.int .i64 m)) : Calls Tryd.prog 43 #[.string s] w fun e w' => e = .returned (.bool (verS s)) ∧ Below w.heap.size w w' := by
  have hcv := run_bytes_of_string (P := Tryd.prog) w 9 62 5 s Tryd.underlying9 Tryd.underlying62 Tryd.underlying5
  obtain ⟨HB, HC⟩ := bytes_start w s (grownCap w s.size 0 5) 5
  have HB := Lib.hid HB
  have HC := Lib.hid HC
  have hgl := World.block_lt_of_cell? _ _ hm
  have hz1 : (w.drew.alloc (.cells (bytesRow s (grownCap w s.size 0 5)) 5 ((bytesRow s (grownCap w s.size 0 5)).size, (bytesRow s (grownCap w s.size 0 5)).size + 1))).heap.size = w.heap.size + 1 := by simp
  generalize grownCap w s.size 0 5 = cap at hcv HB HC hz1
  generalize (w.drew.alloc (.cells (bytesRow s cap) 5 ((bytesRow s cap).size, (bytesRow s cap).size + 1))) = w1 at hcv HB HC hz1
  generalize hb : w.heap.size = b at hcv HC HB hgl hz1 ⊢
  have hm1 : w1.cell? ⟨0, 0, none⟩ = some (.int .i64 m) := by rw [HB.out.cell (p := ⟨0, 0, none⟩) hgl]; exact hm
  have HM := Lib.hid hm1
  have Hb := Lib.hid hb
  have hb1 : b + 1 ≤ w1.heap.size := by omega
  have Hz1 := Lib.hid hz1
  have Hgl := Lib.hid hgl
  clear hb hz1 hm hm1 hgl
  have Hr := Lib.hid (show verS s = (allB verB s && decide (1 ≤ s.size) && decide (s.size ≤ 64)) from rfl)
  have Hno := Lib.hid (fun k (hk : k < s.size) (h : verB (byteN s k : Nat) = false) => show verS s = false by rw [Hr.out, allB_false hk h]; rfl)
  have Hyes := Lib.hid (fun (h : AllTo verB s s.size) => show verS s = (decide (1 ≤ s.size) && decide (s.size ≤ 64)) by rw [Hr.out, allB_true h, Bool.true_and])
  generalize verS s = r at Hr Hno Hyes ⊢
  clear Hr
  go_enter Tryd.func43, Tryd.ntmps43
  go_wp2
  clear hcv
  go_loopw [9] (fun sv wr => ∃ k : Nat, k ≤ s.size ∧ sv = .int .i64 k ∧ Hid (Below (b + 1) w1 wr) ∧ Hid (AllTo verB s k)) (fun sv _ => s.size - (intOf sv).toNat)
  case atStart => exact ⟨0, Nat.zero_le _, rfl, Lib.hid (Below.refl _ _), AllTo.zero _ _⟩
  case round =>
    obtain ⟨k, hks, rfl, HBr, Hi⟩ := hrel
    have HBx := Lib.hid (show Below b w wr from HB.out.trans (HBr.out.mono (by omega)))
    by_cases hk : k < s.size
    · have hc : wr.cell? ⟨b, k, none⟩ = some (.int .u8 (byteN s k : Nat)) := by rw [HBr.out.cell (p := ⟨b, k, none⟩) (Nat.lt_succ_self b)]; exact HC.out k hk
      have hx255 := byteN_lt s k
      have Hn := Lib.hid (fun h => Hi.out.succ h)
      have Hz := Lib.hid (Hno.out k hk)
      have hwz : b + 1 ≤ wr.heap.size := Nat.le_trans hb1 HBr.out.size
      have hmr : wr.cell? ⟨0, 0, none⟩ = some (.int .i64 m) := by rw [HBr.out.cell (p := ⟨0, 0, none⟩) (Nat.lt_succ_of_lt Hgl.out)]; exact HM.out
      generalize byteN s k = x at Hn Hz hc hx255
      have hma : (wr.alloc (.cells #[.int .u8 (x : Nat)] 5)).cell? ⟨0, 0, none⟩ = some (.int .i64 m) := by rw [World.cell?_alloc_old _ _ _ (Nat.ne_of_lt (World.block_lt_of_cell? _ _ hmr))]; exact hmr
      have HCon := Lib.hid (Any.strings_Contains layCo ⟨#[46, 45, 95, 43]⟩ (txt [zB (x : Nat)]) m (wr.alloc (.cells #[.int .u8 (x : Nat)] 5)) (by decide) hma)
      have HCon := Lib.hid (show Calls Tryd.prog 50 #[.string ⟨#[46, 45, 95, 43]⟩, .string (txt [zB (x : Nat)])] (wr.alloc (.cells #[.int .u8 (x : Nat)] 5)) fun e w' => e = .returned (.bool ((x == 46) || (x == 45) || (x == 95) || (x == 43))) ∧ w' = (wr.alloc (.cells #[.int .u8 (x : Nat)] 5)) from HCon.out.mono (fun e w' h => ⟨h.1.trans (by rw [← con_all ⟨x, by omega⟩]; rfl), h.2⟩))
      have hy := conv_b1 wr (x : Nat) (by omega)
      have HD := Lib.hid (fun w => IsDigit_any (x : Nat) w)
      clear hmr hma
      rcases (show (0 ≤ x ∧ x < 43) ∨ (43 ≤ x ∧ x ≤ 43) ∨ (43 < x ∧ x < 45) ∨ (45 ≤ x ∧ x ≤ 46) ∨ (46 < x ∧ x < 48) ∨ (48 ≤ x ∧ x ≤ 57) ∨ (57 < x ∧ x < 65) ∨ (65 ≤ x ∧ x ≤ 90) ∨ (90 < x ∧ x < 95) ∨ (95 ≤ x ∧ x ≤ 95) ∨ (95 < x ∧ x < 97) ∨ (97 ≤ x ∧ x ≤ 122) ∨ (122 < x ∧ x ≤ 255) by omega) with ⟨h, h2⟩ | ⟨h, h2⟩ | ⟨h, h2⟩ | ⟨h, h2⟩ | ⟨h, h2⟩ | ⟨h, h2⟩ | ⟨h, h2⟩ | ⟨h, h2⟩ | ⟨h, h2⟩ | ⟨h, h2⟩ | ⟨h, h2⟩ | ⟨h, h2⟩ | ⟨h, h2⟩
      all_goals
        try rw [show digitB ((x : Nat) : Int) = true from by unfold digitB; simp; omega] at HD
        try rw [show digitB ((x : Nat) : Int) = false from by unfold digitB; rw [Bool.eq_false_iff]; simp; omega] at HD
        try rw [show ((x == 46) || (x == 45) || (x == 95) || (x == 43)) = true from by simp; omega] at HCon
        try rw [show ((x == 46) || (x == 45) || (x == 95) || (x == 43)) = false from by rw [Bool.eq_false_iff]; simp; omega] at HCon
        try have f57 : decide (((x : Nat) : Int) ≤ 57) = false := decide_eq_false (by omega)
        try have f90 : decide (((x : Nat) : Int) ≤ 90) = false := decide_eq_false (by omega)
        try have f122 : decide (((x : Nat) : Int) ≤ 122) = false := decide_eq_false (by omega)
        first
          | (have Hx := Lib.hid (Hz.out (by first | decide | (unfold verB digitB; rw [Bool.eq_false_iff]; simp; omega)))
             go_wp2_with (first
               | (go_at_call 49; with_reducible refine (HD.out _).mono ?_; rintro e w2 ⟨rfl, rfl⟩)
               | (go_at_call 50; with_reducible refine HCon.out.mono ?_; rintro e w2 ⟨rfl, rfl⟩))
             go_ret
             exact ⟨ret_bool (by rw [Hx.out]), HBx.out.alloc (by have := HBx.out.size; omega) _⟩)
          | (have Hx := Lib.hid (Hn.out (by first | decide | (unfold verB digitB; simp; omega)))
             go_wp2_with (first
               | (go_at_call 49; with_reducible refine (HD.out _).mono ?_; rintro e w2 ⟨rfl, rfl⟩)
               | (go_at_call 50; with_reducible refine HCon.out.mono ?_; rintro e w2 ⟨rfl, rfl⟩))
             go_roundw
             case rel => first
               | exact ⟨k + 1, by omega, by go_num, HBr, Hx⟩
               | exact ⟨k + 1, by omega, by go_num, Lib.hid (HBr.out.alloc hwz _), Hx⟩
             case measure => simp [intOf]; omega)
    · obtain rfl : k = s.size := by omega
      have Hz := Lib.hid (Hyes.out Hi.out)
      rcases Nat.lt_or_ge s.size 1 with h1 | h1
      case' inr => rcases Nat.lt_or_ge 64 s.size with h2 | h2
      all_goals
        go_wp2
        go_ret
        exact ⟨ret_bool (by rw [Hz.out, Bool.eq_iff_iff]; simp; omega), HBx.out⟩
end Go.Proofs.YtldhgdoeehnbjaaDoor
