/- chars.Escape. -/
import Derived.Test.YtnkbeaipgadphaaChW2
import Derived.Test.YtnkbeaipgadphaaChD2
import Derived.Test.YtnkbeaipgadphaaShBld
import Derived.Laws.IdiomStrings
namespace Go.Proofs.Ytnkbeaipgadphaa
open Go.RowKit
open C01

theorem escB_nat (attr : Bool) (c : UInt8) : escB attr c = if c.toNat = 38 then [38, 97, 109, 112, 59] else if c.toNat = 60 then [38, 108, 116, 59] else if c.toNat = 62 then [38, 103, 116, 59] else if c.toNat = 13 then [38, 35, 49, 51, 59] else if attr = true ∧ c.toNat = 34 then [38, 113, 117, 111, 116, 59] else if attr = true ∧ c.toNat = 9 then [38, 35, 57, 59] else if attr = true ∧ c.toNat = 10 then [38, 35, 49, 48, 59] else [c] := by
  unfold escB
  simp only [← UInt8.toNat_inj]
  rfl
theorem esc_step {D b n x : Nat} {attr : Bool} {s : ByteArray} {w : World} {l : List UInt8} (hn : n < s.size) (hx : byteN s n = x) (hl : ∀ c : UInt8, c.toNat = x → escB attr c = l) (h : Bld D b (Lib.byteCells (escL attr (s.data.toList.take n)) ++ Lib.byteCells l) w) : Bld D b (Lib.byteCells (escL attr (s.data.toList.take (n + 1)))) w := by
  have h' : n < s.data.toList.length := by rw [Array.length_toList]; exact hn
  have e : (s.data.toList[n]).toNat = x := by rw [← hx]; unfold byteN; rw [List.getD_eq_getElem?_getD, List.getElem?_eq_getElem h']; rfl
  rw [escL_succ h', hl _ e]
  simpa [Lib.byteCells] using h
theorem KeptB.below {O base : Nat} {w w' : World} (h : KeptB O base w w') : O ≤ base → Below O w w' := fun hb => ⟨h.os, h.tape, h.output, h.size, fun k hk => h.block k (by omega) (by omega)⟩
theorem esc_start (w : World) (s : ByteArray) (cap : Nat) (t : TypeId) (fr : Nat × Nat) (w4 : World) (e : w4 = ((w.alloc (.cells #[.pointer none, .slice none 0 0] 56 (0, 0))).alloc (.cells (bytesRow s cap) t fr)).drew) :
    Bld (w.heap.size + 2) w.heap.size (Lib.byteCells []) w4 ∧ Below w.heap.size w w4 ∧ ∃ cs t fr, w4.heap[w.heap.size + 1]? = some (.cells cs t fr) ∧ ∀ k, k < s.size → cs[k]? = some (.int .u8 (byteN s k : Nat)) := by
  have h0 : w4.heap = (w.heap.push (.cells #[.pointer none, .slice none 0 0] 56 (0, 0))).push (.cells (bytesRow s cap) t fr) := by rw [e]; rfl
  refine ⟨⟨by omega, by rw [h0]; simp, .pointer none, .slice none 0 0, .inl rfl, ?_, World.ownsRow_nil _ _ _ _⟩, ?_, bytesRow s cap, t, fr, ?_, ?_⟩
  · rw [h0, Array.getElem?_push, Array.getElem?_push, if_neg (by simp), if_pos (by simp)]
  · rw [e]; exact (((Below.refl _ w).alloc (Nat.le_refl _) _).alloc (by simp) _).drew
  · rw [h0, Array.getElem?_push, if_pos (by simp)]
  · intro k hk
    rw [bytesRow_at s cap k hk, ← byteN_eq hk]
    rfl
set_option maxHeartbeats 2000000 in
theorem Escape_any (s : ByteArray) (attr : Bool) (w : World) (hs : s.size ≤ 1000000) : Calls Try.prog 19 #[.string s, .bool attr] w fun e w' => e = .returned (.string ⟨(escL attr s.data.toList).toArray⟩) ∧ Below w.heap.size w w' := by
  have hcv := fun w s => run_bytes_of_string (P := Try.prog) w 9 49 5 s Try.underlying9 Try.underlying49 Try.underlying5
  go_enter Try.func19, Try.ntmps19
  go_wp2
  generalize grownCap _ s.size 0 5 = cap
  generalize hw4 : World.drew _ = w4
  obtain ⟨HB0, HL0, cs, ty, fr, hrow, hcs⟩ := esc_start w s cap _ _ w4 hw4.symm
  obtain ⟨b, hb⟩ : ∃ b, b = w.heap.size := ⟨_, rfl⟩
  rw [← hb] at HB0 HL0 hrow ⊢
  have HB0 := Lib.hid HB0
  have HL0 := Lib.hid HL0
  have Hrow := Lib.hid hrow
  have Hcs := Lib.hid hcs
  have Hbw := Lib.hid hb
  clear hw4 hrow hcs hb
  go_loopw [11] (fun sv wr => ∃ n : Nat, n ≤ s.size ∧ sv = .int .i64 n ∧ Hid (KeptB b (b + 2) w4 wr) ∧ Hid (Bld (b + 2) b (Lib.byteCells (escL attr (s.data.toList.take n))) wr)) (fun sv _ => s.size - (intOf sv).toNat)
  case atStart => exact ⟨0, Nat.zero_le _, rfl, KeptB.refl _ _ _, Lib.hid (by simpa [escL] using HB0.out)⟩
  case round =>
    obtain ⟨n, hnle, rfl, HK, HB⟩ := hrel
    by_cases hnlt : n < s.size
    · have hc : wr.cell? ⟨b + 1, n, none⟩ = some (.int .u8 (byteN s n : Nat)) := by
        rw [Lib.cell_of_heap ((HK.out.block (b + 1) (by omega) (by omega)).trans Hrow.out)]
        exact Hcs.out n hnlt
      have hlen : (Lib.byteCells (escL attr (s.data.toList.take n))).length ≤ 6000000 := by
        rw [Lib.byteCells_length]
        have := escL_le attr (s.data.toList.take n)
        have : (s.data.toList.take n).length ≤ n := by simp; omega
        omega
      have hx255 := byteN_lt s n
      obtain ⟨x, hx⟩ : ∃ x : Nat, byteN s n = x := ⟨_, rfl⟩
      have Hx := Lib.hid hx
      rw [hx] at hc hx255
      clear hx
      -- WAYS
      rcases Classical.em (x = 38) with hx38 | hx38
      · subst hx38
        have Hw := Lib.hid (WriteString_b (b + 2) b _ ⟨#[38, 97, 109, 112, 59]⟩ _ HB.out (by show _ + 5 ≤ _; omega))
        go_wp2_with (go_at_call 40; refine Hw.out.mono ?_; rintro e w1 ⟨rfl, HB1, HK1⟩; have HB1 := Lib.hid HB1; have HK1 := Lib.hid HK1)
        go_round
        case rel => exact ⟨n + 1, by omega, by go_num, Lib.hid (HK.out.trans HK1.out), Lib.hid (esc_step hnlt Hx.out (l := [38, 97, 109, 112, 59]) (fun c hc => by rw [escB_nat, hc]; rfl) HB1.out)⟩
        case measure => simp [intOf]; omega
      rcases Classical.em (x = 60) with hx60 | hx60
      · subst hx60
        have Hw := Lib.hid (WriteString_b (b + 2) b _ ⟨#[38, 108, 116, 59]⟩ _ HB.out (by show _ + 4 ≤ _; omega))
        go_wp2_with (go_at_call 40; refine Hw.out.mono ?_; rintro e w1 ⟨rfl, HB1, HK1⟩; have HB1 := Lib.hid HB1; have HK1 := Lib.hid HK1)
        go_round
        case rel => exact ⟨n + 1, by omega, by go_num, Lib.hid (HK.out.trans HK1.out), Lib.hid (esc_step hnlt Hx.out (l := [38, 108, 116, 59]) (fun c hc => by rw [escB_nat, hc]; rfl) HB1.out)⟩
        case measure => simp [intOf]; omega
      rcases Classical.em (x = 62) with hx62 | hx62
      · subst hx62
        have Hw := Lib.hid (WriteString_b (b + 2) b _ ⟨#[38, 103, 116, 59]⟩ _ HB.out (by show _ + 4 ≤ _; omega))
        go_wp2_with (go_at_call 40; refine Hw.out.mono ?_; rintro e w1 ⟨rfl, HB1, HK1⟩; have HB1 := Lib.hid HB1; have HK1 := Lib.hid HK1)
        go_round
        case rel => exact ⟨n + 1, by omega, by go_num, Lib.hid (HK.out.trans HK1.out), Lib.hid (esc_step hnlt Hx.out (l := [38, 103, 116, 59]) (fun c hc => by rw [escB_nat, hc]; rfl) HB1.out)⟩
        case measure => simp [intOf]; omega
      rcases Classical.em (x = 13) with hx13 | hx13
      · subst hx13
        have Hw := Lib.hid (WriteString_b (b + 2) b _ ⟨#[38, 35, 49, 51, 59]⟩ _ HB.out (by show _ + 5 ≤ _; omega))
        go_wp2_with (go_at_call 40; refine Hw.out.mono ?_; rintro e w1 ⟨rfl, HB1, HK1⟩; have HB1 := Lib.hid HB1; have HK1 := Lib.hid HK1)
        go_round
        case rel => exact ⟨n + 1, by omega, by go_num, Lib.hid (HK.out.trans HK1.out), Lib.hid (esc_step hnlt Hx.out (l := [38, 35, 49, 51, 59]) (fun c hc => by rw [escB_nat, hc]; rfl) HB1.out)⟩
        case measure => simp [intOf]; omega
      rcases Classical.em (x = 34) with hx34 | hx34
      · subst hx34
        rcases hat : attr with _ | _
        · subst hat
          have Hw := Lib.hid (WriteByte_b (b + 2) b _ 34 _ HB.out (by omega))
          go_wp2_with (go_at_call 41; refine Hw.out.mono ?_; rintro e w1 ⟨rfl, HB1, HK1⟩; have HB1 := Lib.hid HB1; have HK1 := Lib.hid HK1)
          go_round
          case rel => exact ⟨n + 1, by omega, by go_num, Lib.hid (HK.out.trans HK1.out), Lib.hid (esc_step hnlt Hx.out (l := [34]) (fun c hc => by rw [escB_nat, hc]; simp; exact UInt8.toNat_inj.1 hc) HB1.out)⟩
          case measure => simp [intOf]; omega
        · subst hat
          have Hw := Lib.hid (WriteString_b (b + 2) b _ ⟨#[38, 113, 117, 111, 116, 59]⟩ _ HB.out (by show _ + 6 ≤ _; omega))
          go_wp2_with (go_at_call 40; refine Hw.out.mono ?_; rintro e w1 ⟨rfl, HB1, HK1⟩; have HB1 := Lib.hid HB1; have HK1 := Lib.hid HK1)
          go_round
          case rel => exact ⟨n + 1, by omega, by go_num, Lib.hid (HK.out.trans HK1.out), Lib.hid (esc_step hnlt Hx.out (l := [38, 113, 117, 111, 116, 59]) (fun c hc => by rw [escB_nat, hc]; rfl) HB1.out)⟩
          case measure => simp [intOf]; omega
      rcases Classical.em (x = 9) with hx9 | hx9
      · subst hx9
        rcases hat : attr with _ | _
        · subst hat
          have Hw := Lib.hid (WriteByte_b (b + 2) b _ 9 _ HB.out (by omega))
          go_wp2_with (go_at_call 41; refine Hw.out.mono ?_; rintro e w1 ⟨rfl, HB1, HK1⟩; have HB1 := Lib.hid HB1; have HK1 := Lib.hid HK1)
          go_round
          case rel => exact ⟨n + 1, by omega, by go_num, Lib.hid (HK.out.trans HK1.out), Lib.hid (esc_step hnlt Hx.out (l := [9]) (fun c hc => by rw [escB_nat, hc]; simp; exact UInt8.toNat_inj.1 hc) HB1.out)⟩
          case measure => simp [intOf]; omega
        · subst hat
          have Hw := Lib.hid (WriteString_b (b + 2) b _ ⟨#[38, 35, 57, 59]⟩ _ HB.out (by show _ + 4 ≤ _; omega))
          go_wp2_with (go_at_call 40; refine Hw.out.mono ?_; rintro e w1 ⟨rfl, HB1, HK1⟩; have HB1 := Lib.hid HB1; have HK1 := Lib.hid HK1)
          go_round
          case rel => exact ⟨n + 1, by omega, by go_num, Lib.hid (HK.out.trans HK1.out), Lib.hid (esc_step hnlt Hx.out (l := [38, 35, 57, 59]) (fun c hc => by rw [escB_nat, hc]; rfl) HB1.out)⟩
          case measure => simp [intOf]; omega
      rcases Classical.em (x = 10) with hx10 | hx10
      · subst hx10
        rcases hat : attr with _ | _
        · subst hat
          have Hw := Lib.hid (WriteByte_b (b + 2) b _ 10 _ HB.out (by omega))
          go_wp2_with (go_at_call 41; refine Hw.out.mono ?_; rintro e w1 ⟨rfl, HB1, HK1⟩; have HB1 := Lib.hid HB1; have HK1 := Lib.hid HK1)
          go_round
          case rel => exact ⟨n + 1, by omega, by go_num, Lib.hid (HK.out.trans HK1.out), Lib.hid (esc_step hnlt Hx.out (l := [10]) (fun c hc => by rw [escB_nat, hc]; simp; exact UInt8.toNat_inj.1 hc) HB1.out)⟩
          case measure => simp [intOf]; omega
        · subst hat
          have Hw := Lib.hid (WriteString_b (b + 2) b _ ⟨#[38, 35, 49, 48, 59]⟩ _ HB.out (by show _ + 5 ≤ _; omega))
          go_wp2_with (go_at_call 40; refine Hw.out.mono ?_; rintro e w1 ⟨rfl, HB1, HK1⟩; have HB1 := Lib.hid HB1; have HK1 := Lib.hid HK1)
          go_round
          case rel => exact ⟨n + 1, by omega, by go_num, Lib.hid (HK.out.trans HK1.out), Lib.hid (esc_step hnlt Hx.out (l := [38, 35, 49, 48, 59]) (fun c hc => by rw [escB_nat, hc]; rfl) HB1.out)⟩
          case measure => simp [intOf]; omega
      have g38 : (((x : Nat) : Int) == 38) = false := beq_eq_false_iff_ne.2 (by omega)
      have g60 : (((x : Nat) : Int) == 60) = false := beq_eq_false_iff_ne.2 (by omega)
      have g62 : (((x : Nat) : Int) == 62) = false := beq_eq_false_iff_ne.2 (by omega)
      have g13 : (((x : Nat) : Int) == 13) = false := beq_eq_false_iff_ne.2 (by omega)
      have g34 : (((x : Nat) : Int) == 34) = false := beq_eq_false_iff_ne.2 (by omega)
      have g9 : (((x : Nat) : Int) == 9) = false := beq_eq_false_iff_ne.2 (by omega)
      have g10 : (((x : Nat) : Int) == 10) = false := beq_eq_false_iff_ne.2 (by omega)
      have hof : Value.int .u8 ((x : Nat) : Int) = .int .u8 ((UInt8.ofNat x).toNat : Nat) := by rw [UInt8.toNat_ofNat_of_lt' (by show x < 256; omega)]
      have Hof := Lib.hid hof
      clear hof
      rcases hat : attr with _ | _
      · subst hat
        have Hw := Lib.hid (WriteByte_b (b + 2) b _ (x : Nat) _ HB.out (by omega))
        go_wp2_with (go_at_call 41; refine Hw.out.mono ?_; rintro e w1 ⟨rfl, HB1, HK1⟩; have HB1 := Lib.hid HB1; have HK1 := Lib.hid HK1)
        go_round
        case rel => exact ⟨n + 1, by omega, by go_num, Lib.hid (HK.out.trans HK1.out), Lib.hid (esc_step hnlt Hx.out (l := [UInt8.ofNat x]) (fun c hc => by rw [escB_nat, hc]; simp [hx38, hx60, hx62, hx13, hx34, hx9, hx10]; rw [← hc]; simp) (by have h := HB1.out; rw [Hof.out] at h; exact h))⟩
        case measure => simp [intOf]; omega
      · subst hat
        have Hw := Lib.hid (WriteByte_b (b + 2) b _ (x : Nat) _ HB.out (by omega))
        go_wp2_with (go_at_call 41; refine Hw.out.mono ?_; rintro e w1 ⟨rfl, HB1, HK1⟩; have HB1 := Lib.hid HB1; have HK1 := Lib.hid HK1)
        go_round
        case rel => exact ⟨n + 1, by omega, by go_num, Lib.hid (HK.out.trans HK1.out), Lib.hid (esc_step hnlt Hx.out (l := [UInt8.ofNat x]) (fun c hc => by rw [escB_nat, hc]; simp [hx38, hx60, hx62, hx13, hx34, hx9, hx10]; rw [← hc]; simp) (by have h := HB1.out; rw [Hof.out] at h; exact h))⟩
        case measure => simp [intOf]; omega
      -- END
    · go_wp2_with (go_at_call 42; refine (String_any b b (escL attr (s.data.toList.take n)) _ (HB.out.is) (by have := HB.out.2.1; omega)).mono ?_)
      rintro e w1 ⟨rfl, HL1⟩
      have HL1 := Lib.hid HL1
      have hfull : s.data.toList.take n = s.data.toList := List.take_of_length_le (by rw [Array.length_toList]; exact Nat.le_of_not_lt hnlt)
      have HF := Lib.hid hfull
      clear hfull
      go_wp2
      go_ret
      exact ⟨by rw [HF.out]; rfl, by have h := (HL0.out.trans (HK.out.below (by omega))).trans HL1.out; rw [Hbw.out] at h; exact h⟩
end Go.Proofs.Ytnkbeaipgadphaa
