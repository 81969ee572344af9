/- chars.Lower. -/
import Derived.Test.YtnkbeaipgadphaaChW11
import Derived.Test.YtnkbeaipgadphaaQue
import Derived.Deep.DeepCutAuto
namespace Go.Proofs.Ytnkbeaipgadphaa
open Go.RowKit
open C01

theorem u8w {x : Int} (h0 : 0 ≤ x) (h1 : x < 256) : IntKind.u8.wrap x = x := by
  unfold IntKind.wrap
  simp [IntKind.bits, IntKind.signed]
  omega
def lowI (x : Nat) : Nat := if 65 ≤ x ∧ x ≤ 90 then x + 32 else x
def lowU (c : UInt8) : UInt8 := if 65 ≤ c.toNat ∧ c.toNat ≤ 90 then c + 32 else c
theorem lowU_toNat (c : UInt8) : (lowU c).toNat = lowI c.toNat := by
  unfold lowU lowI
  split
  · rename_i h
    rw [UInt8.toNat_add]
    show (c.toNat + 32) % 256 = _
    omega
  · rfl
def lowS (s : ByteArray) : ByteArray := txt (s.data.toList.map lowU)
/-- Block b holds the text, its first k bytes with small letters. -/
def LowAt (s : ByteArray) (b k : Nat) (w : World) : Prop := ∃ (vs : List Value) (m : Nat × Nat), w.heap[b]? = some (.cells vs.toArray 5 m) ∧ s.size ≤ m.1 ∧ ∀ j, j < s.size → vs[j]? = some (.int .u8 ((if j < k then lowI (byteN s j) else byteN s j : Nat) : Int))
theorem LowAt.cell {s : ByteArray} {b k : Nat} {w : World} (h : LowAt s b k w) (hk : k < s.size) : w.cell? ⟨b, k, none⟩ = some (.int .u8 (byteN s k : Nat)) := by
  obtain ⟨vs, m, h1, _, h3⟩ := h
  rw [Lib.cell_of_heap h1]
  have := h3 k hk
  rw [if_neg (Nat.lt_irrefl _)] at this
  simpa using this
theorem LowAt.frozen {s : ByteArray} {b k : Nat} {w : World} (h : LowAt s b k w) (hk : k < s.size) : w.frozen? ⟨b, k, none⟩ = false := by
  obtain ⟨vs, m, h1, h2, _⟩ := h
  simp [World.frozen?, h1]
  omega
theorem LowAt.set {s : ByteArray} {b k : Nat} {w : World} (h : LowAt s b k w) (hk : k < s.size) (hx : 65 ≤ byteN s k ∧ byteN s k ≤ 90) : LowAt s b (k + 1) (w.setCell ⟨b, k, none⟩ (.int .u8 ((byteN s k : Nat) + 32))) := by
  obtain ⟨vs, m, h1, h2, h3⟩ := h
  refine ⟨vs.set k (.int .u8 ((byteN s k : Nat) + 32)), m, ?_, h2, fun j hj => ?_⟩
  · simp [World.setCell, Array.getElem?_modify, h1]
  · have hl : k < vs.length := (List.getElem?_eq_some_iff.1 (h3 k hk)).1
    rw [List.getElem?_set]
    by_cases e : k = j
    · subst e
      rw [if_pos rfl, if_pos hl, if_pos (by omega)]
      unfold lowI
      rw [if_pos hx]
      simp
    · rw [if_neg e, h3 j hj]
      by_cases h : j < k
      · rw [if_pos h, if_pos (by omega)]
      · rw [if_neg h, if_neg (by omega)]
theorem LowAt.skip {s : ByteArray} {b k : Nat} {w : World} (h : LowAt s b k w) (hx : ¬ (65 ≤ byteN s k ∧ byteN s k ≤ 90)) : LowAt s b (k + 1) w := by
  obtain ⟨vs, m, h1, h2, h3⟩ := h
  refine ⟨vs, m, h1, h2, fun j hj => ?_⟩
  rw [h3 j hj]
  by_cases e : j = k
  · subst e
    rw [if_neg (by omega), if_pos (by omega)]
    unfold lowI
    rw [if_neg hx]
  · by_cases h : j < k
    · rw [if_pos h, if_pos (by omega)]
    · rw [if_neg h, if_neg (by omega)]
theorem low_start (s : ByteArray) (w : World) (hs : s.size ≤ 1000000) : LowAt s w.heap.size 0 (w.drew.alloc (.cells (bytesRow s (grownCap w s.size 0 5)) 5 ((bytesRow s (grownCap w s.size 0 5)).size, (bytesRow s (grownCap w s.size 0 5)).size + 1))) := by
  refine ⟨(bytesRow s (grownCap w s.size 0 5)).toList, ((bytesRow s (grownCap w s.size 0 5)).size, (bytesRow s (grownCap w s.size 0 5)).size + 1), ?_, ?_, fun j hj => ?_⟩
  · rw [Array.toArray_toList]
    show (w.drew.heap.push _)[w.drew.heap.size]? = _
    exact Array.getElem?_push_size
  · rcases Nat.eq_zero_or_pos s.size with h | h
    · omega
    · have h' := bytesRow_at s (grownCap w s.size 0 5) (s.size - 1) (by show s.size - 1 < s.size; omega)
      have := (Array.getElem?_eq_some_iff.1 h').1
      show s.size ≤ (bytesRow s (grownCap w s.size 0 5)).size
      omega
  · rw [if_neg (Nat.not_lt_zero _), Array.getElem?_toList, bytesRow_at s _ j hj, ← byteN_eq hj]
    rfl
theorem LowAt.conv {s : ByteArray} {b : Nat} {w : World} (h : LowAt s b s.size w) (cap : Nat) : (convert 49 9 (.slice (some ⟨b, 0, none⟩) s.size cap)).run Try.prog w = .ok (.string (lowS s)) w := by
  have hl : (s.data.toList.map lowU).length = s.size := by rw [List.length_map, Array.length_toList]; rfl
  have := run_convert_bytes_back (P := Try.prog) w 49 9 5 ⟨b, 0, none⟩ cap (s.data.toList.map lowU) Try.underlying49 Try.underlying5 Try.underlying9 (by
    intro j hj
    have hjs : j < s.size := by omega
    obtain ⟨vs, m, h1, _, h3⟩ := h
    rw [add_none, Lib.cell_of_heap h1, Nat.zero_add]
    have := h3 j hjs
    rw [if_pos hjs] at this
    rw [List.getElem?_toArray, this, List.getElem_map, lowU_toNat]
    congr 3
    unfold byteN
    rw [List.getD_eq_getElem?_getD, List.getElem?_eq_getElem (by rw [Array.length_toList]; exact hjs)]
    rfl)
  rw [hl] at this
  exact this
set_option maxHeartbeats 1000000 in
theorem Lower_any (s : ByteArray) (w : World) (hs : s.size ≤ 1000000) : Calls Try.prog 29 #[.string s] w fun e w' => e = .returned (.string (lowS s)) ∧ Below w.heap.size w w' := by
  have hcv := run_bytes_of_string (P := Try.prog) w 9 49 5 s Try.underlying9 Try.underlying49 Try.underlying5
  have HL := Lib.hid (low_start s w hs)
  have HB := Lib.hid (show Below w.heap.size w (w.drew.alloc (.cells (bytesRow s (grownCap w s.size 0 5)) 5 ((bytesRow s (grownCap w s.size 0 5)).size, (bytesRow s (grownCap w s.size 0 5)).size + 1))) from (Below.refl _ w).drew.alloc (Nat.le_refl _) _)
  generalize grownCap w s.size 0 5 = cap at hcv HL HB
  obtain ⟨w1, hw1⟩ : ∃ w1, w1 = (w.drew.alloc (.cells (bytesRow s cap) 5 ((bytesRow s cap).size, (bytesRow s cap).size + 1))) := ⟨_, rfl⟩
  rw [← hw1] at hcv HL HB
  obtain ⟨b, hb⟩ : ∃ b, b = w.heap.size := ⟨_, rfl⟩
  rw [← hb] at hcv HL HB ⊢
  clear hw1 hb
  go_enter Try.func29, Try.ntmps29
  go_wp2
  clear hcv
  go_loopw [10] (fun sv wr => ∃ k : Nat, k ≤ s.size ∧ sv = .int .i64 k ∧ Hid (Below b w wr) ∧ Hid (LowAt s b k wr)) (fun sv _ => s.size - (intOf sv).toNat)
  case atStart => exact ⟨0, Nat.zero_le _, rfl, HB, HL⟩
  case round =>
    obtain ⟨k, hks, rfl, HB, HL⟩ := hrel
    by_cases hk : k < s.size
    · have hc := HL.out.cell hk
      have hz := HL.out.frozen hk
      have hx := byteN_lt s k
      by_cases hu : 65 ≤ byteN s k ∧ byteN s k ≤ 90
      · have Hn := Lib.hid (HL.out.set hk hu)
        obtain ⟨hu1, hu2⟩ := hu
        generalize byteN s k = x at hc hx hu1 hu2 Hn
        have hw1 : IntKind.u8.wrap ((x : Int) + 97) = (x : Int) + 97 := u8w (by omega) (by omega)
        have hw2 : IntKind.u8.wrap ((x : Int) + 97 - 65) = (x : Int) + 32 := by rw [show (x : Int) + 97 - 65 = (x : Int) + 32 by omega]; exact u8w (by omega) (by omega)
        go_wp2
        go_roundw
        case rel => exact ⟨k + 1, by omega, by go_num, HB.out.setCell (p := ⟨b, k, none⟩) (Nat.le_refl _) _, Hn⟩
        case measure => simp [intOf]; omega
      · have Hn := Lib.hid (HL.out.skip hu)
        generalize byteN s k = x at hc hx hu Hn
        rcases Nat.lt_or_ge x 65 with h1 | h1
        all_goals
          try have h2 : 90 < x := by omega
          clear hu
          go_wp2
          go_roundw
          case rel => exact ⟨k + 1, by omega, by go_num, HB, Hn⟩
          case measure => simp [intOf]; omega
    · obtain rfl : k = s.size := by omega
      have hcv := HL.out.conv
      go_wp2
      go_ret
      exact ⟨rfl, HB.out⟩
end Go.Proofs.Ytnkbeaipgadphaa
