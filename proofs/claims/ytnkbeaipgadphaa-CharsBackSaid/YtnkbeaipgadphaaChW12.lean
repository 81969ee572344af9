/- pomaceref01.Letter. -/
import Derived.Test.YtnkbeaipgadphaaChW11
namespace Go.Proofs.Ytnkbeaipgadphaa
open Go.RowKit
open C01

def zB (z : Int) : UInt8 := UInt8.ofNat z.toNat
theorem zB_toNat {z : Int} (h0 : 0 ≤ z) (h1 : z < 256) : ((zB z).toNat : Int) = z := by
  unfold zB
  have h : z.toNat < 256 := by omega
  rw [UInt8.toNat_ofNat', Nat.mod_eq_of_lt h]
  omega
theorem u8wrap {x : Int} (h0 : 0 ≤ x) (h1 : x < 256) : IntKind.u8.wrap x = x := by
  unfold IntKind.wrap
  simp [IntKind.bits, IntKind.signed]
  omega
theorem conv_bytes (w : World) (z : List Int) (hz : ∀ x ∈ z, 0 ≤ x ∧ x < 256) : (convert 49 9 (.slice (some ⟨w.heap.size, 0, none⟩) z.length z.length)).run Try.prog (w.alloc (.cells (z.map fun b => Value.int .u8 b).toArray 5)) = .ok (.string (txt (z.map zB))) (w.alloc (.cells (z.map fun b => Value.int .u8 b).toArray 5)) := by
  have h := run_convert_bytes_back (P := Try.prog) (w.alloc (.cells (z.map fun b => Value.int .u8 b).toArray 5)) 49 9 5 ⟨w.heap.size, 0, none⟩ z.length (z.map zB) Try.underlying49 Try.underlying5 Try.underlying9 (by
    intro j hj
    have hj' : j < z.length := by simpa using hj
    rw [add_none, cell_of_row _ _ _ _ _ (0, 0) (heap_alloc_new w _)]
    simp only [Nat.zero_add, List.getElem?_toArray, List.getElem?_map, List.getElem?_eq_getElem hj', Option.map_some, List.getElem_map]
    obtain ⟨h0, h1⟩ := hz _ (List.getElem_mem hj')
    rw [zB_toNat h0 h1])
  rw [List.length_map] at h
  exact h
theorem conv_b1 (w : World) (a : Int) (h : 0 ≤ a ∧ a < 256) : (convert 49 9 (.slice (some ⟨w.heap.size, 0, none⟩) 1 1)).run Try.prog (w.alloc (.cells #[.int .u8 a] 5)) = .ok (.string (txt [zB a])) (w.alloc (.cells #[.int .u8 a] 5)) :=
  conv_bytes w [a] (by simpa using h)
theorem conv_b2 (w : World) (a b : Int) (h : (0 ≤ a ∧ a < 256) ∧ (0 ≤ b ∧ b < 256)) : (convert 49 9 (.slice (some ⟨w.heap.size, 0, none⟩) 2 2)).run Try.prog (w.alloc (.cells #[.int .u8 a, .int .u8 b] 5)) = .ok (.string (txt [zB a, zB b])) (w.alloc (.cells #[.int .u8 a, .int .u8 b] 5)) :=
  conv_bytes w [a, b] (by simpa using h)
theorem conv_b3 (w : World) (a b c : Int) (h : (0 ≤ a ∧ a < 256) ∧ (0 ≤ b ∧ b < 256) ∧ (0 ≤ c ∧ c < 256)) : (convert 49 9 (.slice (some ⟨w.heap.size, 0, none⟩) 3 3)).run Try.prog (w.alloc (.cells #[.int .u8 a, .int .u8 b, .int .u8 c] 5)) = .ok (.string (txt [zB a, zB b, zB c])) (w.alloc (.cells #[.int .u8 a, .int .u8 b, .int .u8 c] 5)) :=
  conv_bytes w [a, b, c] (by simpa using h)
theorem conv_b4 (w : World) (a b c d : Int) (h : (0 ≤ a ∧ a < 256) ∧ (0 ≤ b ∧ b < 256) ∧ (0 ≤ c ∧ c < 256) ∧ (0 ≤ d ∧ d < 256)) : (convert 49 9 (.slice (some ⟨w.heap.size, 0, none⟩) 4 4)).run Try.prog (w.alloc (.cells #[.int .u8 a, .int .u8 b, .int .u8 c, .int .u8 d] 5)) = .ok (.string (txt [zB a, zB b, zB c, zB d])) (w.alloc (.cells #[.int .u8 a, .int .u8 b, .int .u8 c, .int .u8 d] 5)) :=
  conv_bytes w [a, b, c, d] (by simpa using h)
theorem enc_one {n : Int} (h0 : 0 ≤ n) (h1 : n < 128) : Utf8.encode n = txt [zB n] := by
  have v : Utf8.valid n = true := by simp [Utf8.valid]; omega
  have c : n.toNat < 128 := by omega
  simp [Utf8.encode, v, c, txt, zB]
theorem enc_two {n : Int} (h0 : 128 ≤ n) (h1 : n < 2048) : Utf8.encode n = txt [zB (192 + n / 64), zB (128 + n % 64)] := by
  have v : Utf8.valid n = true := by simp [Utf8.valid]; omega
  have c : ¬ n.toNat < 128 := by omega
  have c2 : n.toNat < 2048 := by omega
  have e1 : (192 + n / 64).toNat = 192 + n.toNat / 64 := by omega
  have e2 : (128 + n % 64).toNat = 128 + n.toNat % 64 := by omega
  unfold zB
  rw [e1, e2]
  simp [Utf8.encode, v, c, c2, txt]
theorem enc_three {n : Int} (h0 : 2048 ≤ n) (h1 : n < 65536) (hs : n < 55296 ∨ 57343 < n) : Utf8.encode n = txt [zB (224 + n / 4096), zB (128 + n / 64 % 64), zB (128 + n % 64)] := by
  have v : Utf8.valid n = true := by simp [Utf8.valid]; omega
  have c : ¬ n.toNat < 128 := by omega
  have c2 : ¬ n.toNat < 2048 := by omega
  have c3 : n.toNat < 65536 := by omega
  have e1 : (224 + n / 4096).toNat = 224 + n.toNat / 4096 := by omega
  have e2 : (128 + n / 64 % 64).toNat = 128 + n.toNat / 64 % 64 := by omega
  have e3 : (128 + n % 64).toNat = 128 + n.toNat % 64 := by omega
  unfold zB
  rw [e1, e2, e3]
  simp [Utf8.encode, v, c, c2, c3, txt]
theorem enc_four {n : Int} (h0 : 65536 ≤ n) (h1 : n ≤ 1114111) : Utf8.encode n = txt [zB (240 + n / 262144), zB (128 + n / 4096 % 64), zB (128 + n / 64 % 64), zB (128 + n % 64)] := by
  have v : Utf8.valid n = true := by simp [Utf8.valid]; omega
  have c : ¬ n.toNat < 128 := by omega
  have c2 : ¬ n.toNat < 2048 := by omega
  have c3 : ¬ n.toNat < 65536 := by omega
  have e1 : (240 + n / 262144).toNat = 240 + n.toNat / 262144 := by omega
  have e2 : (128 + n / 4096 % 64).toNat = 128 + n.toNat / 4096 % 64 := by omega
  have e3 : (128 + n / 64 % 64).toNat = 128 + n.toNat / 64 % 64 := by omega
  have e4 : (128 + n % 64).toNat = 128 + n.toNat % 64 := by omega
  unfold zB
  rw [e1, e2, e3, e4]
  simp [Utf8.encode, v, c, c2, c3, txt]
set_option maxHeartbeats 2000000 in
theorem refLetter_any (n : Int) (w : World) (hn : -9223372036854775808 ≤ n ∧ n ≤ 9223372036854775807) : Calls Try.prog 14 #[.int .i64 n] w fun e w' => e = .returned (.string (letterS n)) ∧ Below w.heap.size w w' := by
  rcases (show n < 9 ∨ n = 9 ∨ n = 10 ∨ (10 < n ∧ n < 13) ∨ n = 13 ∨ (13 < n ∧ n < 32) ∨ (32 ≤ n ∧ n < 128) ∨ (128 ≤ n ∧ n < 2048) ∨ (2048 ≤ n ∧ n < 55296) ∨ (55296 ≤ n ∧ n ≤ 57343) ∨ (57343 < n ∧ n < 65536) ∨ (65536 ≤ n ∧ n ≤ 1114111) ∨ 1114111 < n by omega) with h | rfl | rfl | ⟨h, h2⟩ | rfl | ⟨h, h2⟩ | ⟨h, h2⟩ | ⟨h, h2⟩ | ⟨h, h2⟩ | ⟨h, h2⟩ | ⟨h, h2⟩ | ⟨h, h2⟩ | h
  case inr.inl => 
    have hy := conv_b1 w 9 (by omega)
    go_enter Try.func14, Try.ntmps14
    go_wp2
    go_ret
    exact ⟨rfl, below_alloc _ _⟩
  case inr.inr.inl => 
    have hy := conv_b1 w 10 (by omega)
    go_enter Try.func14, Try.ntmps14
    go_wp2
    go_ret
    exact ⟨rfl, below_alloc _ _⟩
  case inr.inr.inr.inr.inl => 
    have hy := conv_b1 w 13 (by omega)
    go_enter Try.func14, Try.ntmps14
    go_wp2
    go_ret
    exact ⟨rfl, below_alloc _ _⟩
  all_goals
    have e1 : (n == 9) = false := by rw [beq_eq_false_iff_ne]; omega
    have e2 : (n == 10) = false := by rw [beq_eq_false_iff_ne]; omega
    have e3 : (n == 13) = false := by rw [beq_eq_false_iff_ne]; omega
    have f1 : (n != 9) = true := by rw [bne, e1]; rfl
    have f2 : (n != 10) = true := by rw [bne, e2]; rfl
    have f3 : (n != 13) = true := by rw [bne, e3]; rfl
    first
      | (have Hl := Lib.hid (letter_no (n := n) (by omega))
         go_enter Try.func14, Try.ntmps14
         go_wp2
         go_ret
         exact ⟨by unfold letterS; rw [Hl.out]; rfl, Below.refl _ _⟩)
      | (have Hl := Lib.hid (letter_yes (n := n) (by omega))
         have He := Lib.hid (enc_one (n := n) (by omega) (by omega))
         have hw := u8wrap (x := n) (by omega) (by omega)
         have hy := conv_b1 w n (by omega)
         go_enter Try.func14, Try.ntmps14
         go_wp2
         go_ret
         exact ⟨by unfold letterS; rw [Hl.out, He.out]; rfl, below_alloc _ _⟩)
      | (have Hl := Lib.hid (letter_yes (n := n) (by omega))
         have He := Lib.hid (enc_two (n := n) (by omega) (by omega))
         have hw := u8wrap (x := 192 + n / 64) (by omega) (by omega)
         have hw2 := u8wrap (x := 128 + n % 64) (by omega) (by omega)
         have hy := conv_b2 w (192 + n / 64) (128 + n % 64) (by omega)
         go_enter Try.func14, Try.ntmps14
         go_wp2
         go_ret
         exact ⟨by unfold letterS; rw [Hl.out, He.out]; rfl, below_alloc _ _⟩)
      | (have Hl := Lib.hid (letter_yes (n := n) (by omega))
         have He := Lib.hid (enc_three (n := n) (by omega) (by omega) (by omega))
         have hw := u8wrap (x := 224 + n / 4096) (by omega) (by omega)
         have hw2 := u8wrap (x := 128 + n / 64 % 64) (by omega) (by omega)
         have hw3 := u8wrap (x := 128 + n % 64) (by omega) (by omega)
         have hy := conv_b3 w (224 + n / 4096) (128 + n / 64 % 64) (128 + n % 64) (by omega)
         go_enter Try.func14, Try.ntmps14
         go_wp2
         go_ret
         exact ⟨by unfold letterS; rw [Hl.out, He.out]; rfl, below_alloc _ _⟩)
      | (have Hl := Lib.hid (letter_yes (n := n) (by omega))
         have He := Lib.hid (enc_four (n := n) (by omega) (by omega))
         have hw := u8wrap (x := 240 + n / 262144) (by omega) (by omega)
         have hw2 := u8wrap (x := 128 + n / 4096 % 64) (by omega) (by omega)
         have hw3 := u8wrap (x := 128 + n / 64 % 64) (by omega) (by omega)
         have hw4 := u8wrap (x := 128 + n % 64) (by omega) (by omega)
         have hy := conv_b4 w (240 + n / 262144) (128 + n / 4096 % 64) (128 + n / 64 % 64) (128 + n % 64) (by omega)
         go_enter Try.func14, Try.ntmps14
         go_wp2
         go_ret
         exact ⟨by unfold letterS; rw [Hl.out, He.out]; rfl, below_alloc _ _⟩)
end Go.Proofs.Ytnkbeaipgadphaa
