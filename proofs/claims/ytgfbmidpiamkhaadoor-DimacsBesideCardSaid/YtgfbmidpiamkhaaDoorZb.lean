/- chars: classes of bytes; small functions of dimacs. / dimacs: fail, CutPrefix, behind, words. / dimacs.words: the words of a line. -/
import Derived.Deep.DeepCutAuto
import Derived.Test.YtgfbmidpiamkhaaDoorZa
namespace Go.Proofs.YtgfbmidpiamkhaaDoor
open Go.RowKit
open C01

set_option maxHeartbeats 400000 in
theorem IsBlank_any (c : Int) (w : World) : Calls Tryd.prog 57 #[.int .u8 c] w fun e w' => e = .returned (.bool (blankB c)) ∧ w = w' := by
  go_enter Tryd.func57, Tryd.ntmps57
  go_wp2
  all_goals
    go_ret
    refine ⟨ret_bool ?_, rfl⟩
    first | rfl | (simp_all [blankB])
set_option maxHeartbeats 400000 in
theorem IsDigit_any (c : Int) (w : World) : Calls Tryd.prog 50 #[.int .u8 c] w fun e w' => e = .returned (.bool (digitB c)) ∧ w = w' := by
  by_cases h1 : 48 ≤ c <;> by_cases h2 : c ≤ 57
  all_goals
    have Hd := Lib.hid (show digitB c = _ from by simp only [digitB, h1, h2, decide_true, decide_false, Bool.and_true, Bool.and_false]; rfl)
    go_enter Tryd.func50, Tryd.ntmps50
    go_wp2
    go_ret
    exact ⟨ret_bool (by rw [Hd.out] <;> simp [h2]), rfl⟩
theorem class_ranges {c : Int} : (c < 9 ∨ c = 9 ∨ c = 10 ∨ (10 < c ∧ c < 13) ∨ c = 13 ∨ (13 < c ∧ c < 32) ∨ c = 32 ∨ (32 < c ∧ c < 45) ∨ c = 45 ∨ c = 46 ∨ c = 47 ∨ (48 ≤ c ∧ c ≤ 57) ∨ c = 58 ∨ (58 < c ∧ c < 65) ∨ (65 ≤ c ∧ c ≤ 90) ∨ (90 < c ∧ c < 95) ∨ c = 95 ∨ c = 96 ∨ (97 ≤ c ∧ c ≤ 122) ∨ 122 < c) := by omega
set_option maxHeartbeats 4000000 in
theorem Class_any (c : Int) (w : World) : Calls Tryd.prog 52 #[.int .u8 c] w fun e w' => e = .returned (.int .i64 (classI c)) ∧ w = w' := by
  rcases class_ranges (c := c) with h | rfl | rfl | ⟨h, h2⟩ | rfl | ⟨h, h2⟩ | rfl | ⟨h, h2⟩ | rfl | rfl | rfl | ⟨h, h2⟩ | rfl | ⟨h, h2⟩ | ⟨h, h2⟩ | ⟨h, h2⟩ | rfl | rfl | ⟨h, h2⟩ | h
  all_goals
    try have e32 : (c == 32) = false := by rw [beq_eq_false_iff_ne]; omega
    try have e9 : (c == 9) = false := by rw [beq_eq_false_iff_ne]; omega
    try have e10 : (c == 10) = false := by rw [beq_eq_false_iff_ne]; omega
    try have e13 : (c == 13) = false := by rw [beq_eq_false_iff_ne]; omega
    try have e95 : (c == 95) = false := by rw [beq_eq_false_iff_ne]; omega
    try have e46 : (c == 46) = false := by rw [beq_eq_false_iff_ne]; omega
    try have e45 : (c == 45) = false := by rw [beq_eq_false_iff_ne]; omega
    try have e58 : (c == 58) = false := by rw [beq_eq_false_iff_ne]; omega
    go_enter Tryd.func52, Tryd.ntmps52
    go_wp2
    go_ret
    refine ⟨ret_int ?_, rfl⟩
    first
      | rfl
      | (simp only [classI, i1, blankB, digitB, firstB, markB, textB, Bool.or_eq_true, Bool.and_eq_true, decide_eq_true_eq, beq_iff_eq]; repeat' (first | omega | split))
set_option maxHeartbeats 400000 in
theorem Is_any (c k : Int) (w : World) (hk : k = 1 ∨ k = 2 ∨ k = 4 ∨ k = 8 ∨ k = 16) : Calls Tryd.prog 35 #[.int .u8 c, .int .i64 k] w fun e w' => e = .returned (.bool (isI c k)) ∧ w = w' := by
  have H1 := Lib.hid (fun w => Class_any c w)
  have hb := classI_bounds c
  have Hd := Lib.hid (show isI c k = (classI c / k % 2 == 1) from rfl)
  obtain ⟨x, hx⟩ : ∃ x, x = classI c := ⟨_, rfl⟩
  rw [← hx] at H1 hb Hd
  clear hx
  rcases hk with rfl | rfl | rfl | rfl | rfl
  all_goals
    go_enter Tryd.func35, Tryd.ntmps35
    go_wp2_with (go_at_call 52; refine (H1.out _).mono ?_; rintro e w1 ⟨rfl, rfl⟩)
    go_ret
    exact ⟨ret_bool (by rw [Hd.out] <;> simp), rfl⟩
end Go.Proofs.YtgfbmidpiamkhaaDoor

namespace Go.Proofs.YtgfbmidpiamkhaaDoor
open Go.RowKit
open C01 D28

/-- the panic of a fault -/
def flt (c at_ : Int) : List PanicEntry := [{ v := .iface 94 (.agg #[.int .i64 c, .int .i64 at_]), recovered := false }]
theorem fail_any (c n : Int) (w : World) : Calls Tryd.prog 31 #[.int .i64 c, .int .i64 n] w fun e w' => e = .panicked (flt c n) ∧ w = w' := by
  go_enter Tryd.func31, Tryd.ntmps31
  go_wp2
  exact ⟨rfl, rfl, rfl⟩
theorem HasPrefix_any (s p : ByteArray) (w : World) : Calls Tryd.prog 64 #[.string s, .string p] w fun e w' => e = .returned (.bool (Lib.hasPrefix s.data.toList p.data.toList)) ∧ w' = w := Any.stringslite_HasPrefix layHp s p w
def minusB (a : Bs) : Bool := match a with
  | 45 :: _ => true
  | _ => false
def restB (a : Bs) : Bs := match a with
  | 45 :: r => r
  | _ => a
theorem prefix_minus (a : Bs) : Lib.hasPrefix a [45] = minusB a := by
  cases a with
  | nil => rfl
  | cons c r =>
    by_cases h : c = 45
    · subst h; simp [Lib.hasPrefix, minusB]
    · have h2 : ¬ (45 : UInt8) = c := fun e => h e.symm
      simp [Lib.hasPrefix, minusB, h, List.isPrefixOf, h2]
theorem CutPrefix_in (a : Bs) (w : World) : Calls Tryd.prog 58 #[sv a, .string ⟨#[45]⟩] w fun e w' => e = .returned (.tuple #[sv (restB a), .bool (minusB a)]) ∧ w = w' := by
  have H := Lib.hid (fun w => HasPrefix_any (bz a) ⟨#[45]⟩ w)
  have Hm := Lib.hid (show Lib.hasPrefix (bz a).data.toList (⟨#[45]⟩ : ByteArray).data.toList = minusB a from prefix_minus a)
  cases hm : minusB a with
  | false =>
    rw [hm] at Hm
    have Hr := Lib.hid (show restB a = a by cases a with
      | nil => rfl
      | cons c r => by_cases h : c = 45 <;> simp_all [minusB, restB])
    clear hm
    go_enter Tryd.func58, Tryd.ntmps58
    go_wp2_with (go_at_call 64; refine (H.out _).mono ?_; rintro e w1 ⟨rfl, rfl⟩; rw [Hm.out])
    go_ret2
    rw [Hr.out]
    exact ⟨rfl, rfl⟩
  | true =>
    rw [hm] at Hm
    obtain ⟨r, rfl⟩ : ∃ r, a = 45 :: r := by
      cases a with
      | nil => cases hm
      | cons c r => by_cases h : c = 45
                    · subst h; exact ⟨r, rfl⟩
                    · simp [minusB, h] at hm
    clear hm
    have hle : (1 : Int) ≤ (bz (45 :: r)).size := by rw [bz_size]; simp; omega
    have Hx := Lib.hid (show (bz (45 :: r)).extract 1 (bz (45 :: r)).size = bz r by rw [bz_ext]; simp [bz_size])
    go_enter Tryd.func58, Tryd.ntmps58
    go_wp2_with (go_at_call 64; refine (H.out _).mono ?_; rintro e w1 ⟨rfl, rfl⟩; rw [Hm.out])
    go_ret2
    exact ⟨by simp [Hx.out, restB], rfl⟩
theorem CutPrefix_any (a : Bs) (w : World) : Calls Tryd.prog 49 #[sv a, .string ⟨#[45]⟩] w fun e w' => e = .returned (.tuple #[sv (restB a), .bool (minusB a)]) ∧ w = w' := by
  have H := Lib.hid (fun w => CutPrefix_in a w)
  go_enter Tryd.func49, Tryd.ntmps49
  go_wp2_with (go_at_call 58; refine (H.out _).mono ?_; rintro e w1 ⟨rfl, rfl⟩)
  go_ret2
  exact ⟨rfl, rfl⟩
theorem countByte_eq (a : Bs) (c : UInt8) : Lib.countByte a c = a.count c := rfl
theorem behind_any (a : Bs) (w : World) (ha : a.length ≤ 1000000000) : Calls Tryd.prog 32 #[sv a] w fun e w' => e = .returned (.int .i64 (endOf a)) ∧ w = w' := by
  have H := Lib.hid (fun w => Any.strings_Count_one layCt (bz a) 10 w)
  have hc := List.count_le_length (a := (10 : UInt8)) (l := a)
  have Hc := Lib.hid (show Lib.countByte (bz a).data.toList 10 = a.count 10 from countByte_eq a 10)
  obtain ⟨n, hn⟩ : ∃ n, a.count 10 = n := ⟨_, rfl⟩
  have He := Lib.hid (show endOf a = n + 2 by rw [← hn]; rfl)
  rw [hn] at Hc hc
  clear hn
  go_enter Tryd.func32, Tryd.ntmps32
  go_wp2_with (go_at_call 51; refine (H.out _).mono ?_; rintro e w1 ⟨rfl, rfl⟩; rw [Hc.out])
  go_ret
  rw [He.out]
  exact ⟨by simp, rfl⟩
end Go.Proofs.YtgfbmidpiamkhaaDoor

namespace Go.Proofs.YtgfbmidpiamkhaaDoor
open Go.RowKit
open C01 D28

theorem eStr : Elem1 Tryd.prog 64 9 16 := elem1_mk (z := .string ⟨#[]⟩) Tryd.underlying64 (by kernel_rfl) (by omega) rfl
theorem blank_eq (c : UInt8) : blankB (c.toNat : Int) = blankU c := by
  unfold blankB blankU
  have e : ∀ k : UInt8, ((c.toNat : Int) == (k.toNat : Int)) = (c == k) := fun k => by
    rw [Bool.eq_iff_iff, beq_iff_eq, beq_iff_eq]
    exact ⟨fun h => UInt8.toNat_inj.1 (by omega), fun h => by rw [h]⟩
  have e1 := e 32; have e2 := e 9; have e3 := e 10; have e4 := e 13
  simp only [show ((32 : UInt8).toNat : Int) = 32 from rfl, show ((9 : UInt8).toNat : Int) = 9 from rfl, show ((10 : UInt8).toNat : Int) = 10 from rfl, show ((13 : UInt8).toNat : Int) = 13 from rfl] at e1 e2 e3 e4
  rw [e1, e2, e3, e4]
/-- the state ahead of byte i; behind the last one all is whole -/
def wAt (a : Bs) (i : Nat) : WS := if i ≤ a.length then (a.take i).foldl wstep ([], []) else (wordsOf a, [])
theorem wAt_zero (a : Bs) : wAt a 0 = ([], []) := by simp [wAt]
theorem wAt_succ {a : Bs} {i : Nat} (h : i < a.length) : wAt a (i + 1) = wstep (wAt a i) a[i] := by
  unfold wAt
  rw [if_pos (by omega), if_pos (by omega), List.take_succ_eq_append_getElem h, List.foldl_append]; rfl
theorem wAt_len (a : Bs) : wAt a a.length = a.foldl wstep ([], []) := by rw [wAt, if_pos (Nat.le_refl _), List.take_length]
theorem wAt_end (a : Bs) : wAt a (a.length + 1) = (wfin (wAt a a.length), []) := by rw [wAt_len, wAt, if_neg (by omega)]; rfl
/-- what is read is the end of what was read -/
theorem wAt_cur (a : Bs) : ∀ i, i ≤ a.length → (wAt a i).2.length ≤ i ∧ (wAt a i).2 = (a.take i).drop (i - (wAt a i).2.length)
  | 0, _ => by simp [wAt_zero]
  | i + 1, h => by
    have ih := wAt_cur a i (by omega)
    have hi : i < a.length := h
    rw [wAt_succ hi]
    unfold wstep
    by_cases hb : blankU a[i] = true
    · rw [if_pos hb]
      by_cases h0 : (wAt a i).2 = []
      · rw [if_pos h0]
        simp [h0]
      · rw [if_neg h0]; simp
    · rw [if_neg hb]
      refine ⟨by simp; omega, ?_⟩
      simp only [List.length_append, List.length_singleton]
      rw [List.take_succ_eq_append_getElem hi, show i + 1 - ((wAt a i).2.length + 1) = i - (wAt a i).2.length by omega, List.drop_append_of_le_length (by simp; omega), ← ih.2]
theorem wAt_ext {a : Bs} {i : Nat} (h : i ≤ a.length) : (bz a).extract (i - (wAt a i).2.length) i = bz (wAt a i).2 := by
  have ⟨h1, h2⟩ := wAt_cur a i h
  rw [bz_ext]
  congr 1
  rw [show i - (i - (wAt a i).2.length) = (wAt a i).2.length by omega]
  conv => rhs; rw [h2]
  rw [List.drop_take]
  congr 1
  omega
theorem wAt_len1 (a : Bs) : ∀ i, i ≤ a.length → (wAt a i).1.length ≤ i
  | 0, _ => by simp [wAt_zero]
  | i + 1, h => by
    have ih := wAt_len1 a i (by omega)
    rw [wAt_succ (show i < a.length from h)]
    unfold wstep
    split
    · split
      · omega
      · simp; omega
    · simp; omega
theorem words_len (a : Bs) : (wordsOf a).length ≤ a.length + 1 := by
  have := wAt_len1 a a.length (Nat.le_refl _)
  rw [wAt_len] at this
  unfold wordsOf wfin
  split
  · omega
  · simp; omega
def fromV (i : Nat) (s : WS) : Int := if s.2 = [] then -1 else (i : Int) - s.2.length
/-- a row of texts of the call's own -/
def OwnT (w : World) (B : Nat) (v : Value) (W : List Bs) : Prop := w.ownsRow B 9 1 v W.length (W.map sv)
theorem wfin_nil {s : WS} (h : s.2 = []) : wfin s = s.1 := by unfold wfin; rw [if_pos h]
theorem wfin_one {s : WS} (h : s.2 ≠ []) : wfin s = s.1 ++ [s.2] := by unfold wfin; rw [if_neg h]
set_option maxRecDepth 100000 in
set_option maxHeartbeats 4000000 in
theorem words_any (a : Bs) (w : World) (ha : a.length ≤ 1000000000) : Calls Tryd.prog 48 #[sv a] w fun e w' => ∃ v, e = .returned v ∧ OwnT w' w.heap.size v (wordsOf a) ∧ Below w.heap.size w w' := by
  have HIB := Lib.hid (fun c w => IsBlank_any c w)
  have Hsz := Lib.hid (show ((bz a).size : Int) = a.length from rfl)
  obtain ⟨B, hB⟩ : ∃ B, B = w.heap.size := ⟨_, rfl⟩
  rw [← hB]
  have HB := Lib.hid hB
  clear hB
  go_enter Tryd.func48, Tryd.ntmps48
  go_wp2
  go_loopw [4, 3, 2] (fun iv fv lv wr => ∃ (i : Nat) (A : Option Addr) (c : Nat), i ≤ a.length + 1 ∧ iv = .int .i64 i ∧ fv = .int .i64 (fromV i (wAt a i)) ∧ lv = .slice A (wAt a i).1.length c ∧ Hid (OwnT wr B (.slice A (wAt a i).1.length c) (wAt a i).1) ∧ Hid (Below B w wr)) (fun iv _ _ _ => a.length + 1 - (intOf iv).toNat)
  case atStart => exact ⟨0, none, 0, Nat.zero_le _, rfl, by rw [wAt_zero]; rfl, by rw [wAt_zero]; rfl, Lib.hid (by rw [wAt_zero]; exact World.ownsRow_nil _ _ _ _), Lib.hid (Below.refl _ _)⟩
  case round =>
    obtain ⟨i, A, c, hi, rfl, rfl, rfl, HO, HW⟩ := hrel
    by_cases hie : i = a.length + 1
    · subst hie
      have hs := wAt_end a
      rw [show wAt a (a.length + 1) = (wordsOf a, []) by rw [hs, wAt_len]; rfl] at HO ⊢
      have hle : ¬ (((a.length + 1 : Nat) : Int) ≤ ((bz a).size : Int)) := by rw [Hsz.out]; omega
      have hle2 : ¬ ((a.length : Int) + 1 ≤ ((bz a).size : Int)) := by rw [Hsz.out]; omega
      clear hs
      go_wp2
      go_ret
      exact ⟨_, rfl, HO.out, HW.out⟩
    have hil : i ≤ a.length := by omega
    obtain ⟨⟨ws, cur⟩, hs⟩ : ∃ s, s = wAt a i := ⟨_, rfl⟩
    have hlen := wAt_len1 a i hil
    have hcl := (wAt_cur a i hil).1
    have hext := wAt_ext hil
    rw [← hs] at HO hlen hcl hext ⊢
    dsimp only at hlen hcl hext HO
    have hle : (i : Int) ≤ ((bz a).size : Int) := by rw [Hsz.out]; omega
    have hwz := HW.out.size
    have hBB := HB.out
    by_cases hl : i = a.length
    · -- behind the last byte
      have heq : ((i : Int) == ((bz a).size : Int)) = true := by rw [Hsz.out, hl]; simp
      have Hn := Lib.hid (show wAt a (i + 1) = (wfin (ws, cur), []) by rw [hl, wAt_end, ← hl, hs])
      clear hs hl
      by_cases h0 : cur = []
      · subst h0
        have Hn2 := Lib.hid (Hn.out.trans (by rw [wfin_nil rfl]))
        have hf : fromV i (ws, ([] : Bs)) = -1 := rfl
        rw [hf]
        clear Hn hf hext hcl
        go_wp2
        go_roundw
        case rel => exact ⟨i + 1, A, c, by omega, by go_num, by rw [Hn2.out]; rfl, by rw [Hn2.out], Lib.hid (by rw [Hn2.out]; exact HO.out), HW⟩
        case measure => simp [intOf]; omega
      · have Hn2 := Lib.hid (Hn.out.trans (by rw [wfin_one h0]))
        obtain ⟨k, hk⟩ : ∃ k, k = i - cur.length := ⟨_, rfl⟩
        have hf : fromV i (ws, cur) = (k : Nat) := by unfold fromV; rw [if_neg h0, hk]; simp; omega
        rw [hf]
        rw [← hk] at hext
        have hki : k ≤ i := by omega
        have hk0 : 0 ≤ (k : Int) := by omega
        have hks : (k : Int) ≤ (i : Int) := by omega
        clear Hn hf hcl hk h0
        go_wp2_with (at_builtin; refine wpList_push rfl _ _ _ rfl eStr (v := .slice A ws.length c) rfl (World.ownsRow.alloc HO.out _) wr.heap.size (sv cur) rfl (by simp [go_sem]) rfl (by omega) (by simp; omega) ?_; intro v1 w5 hown1 hg1 hat1)
        obtain ⟨A2, c2, rfl⟩ := own_shape hown1
        have HW2 := Lib.hid ((HW.out.alloc (by omega) _).grown hg1 (by simp; omega) (fun q hq => (World.ownsRow.lt HO.out q hq).1))
        have HO2 := Lib.hid (show OwnT w5 B (.slice A2 (ws ++ [cur]).length c2) (ws ++ [cur]) by unfold OwnT; simpa using hown1)
        rw [show (ws.length + 1) = (ws ++ [cur]).length by simp]
        clear hown1 hg1 hat1
        go_wp2
        go_roundw
        case rel => exact ⟨i + 1, A2, c2, by omega, by go_num, by rw [Hn2.out]; rfl, by rw [Hn2.out], Lib.hid (by rw [Hn2.out]; exact HO2.out), HW2⟩
        case measure => simp [intOf]; omega
    · have hlt : i < a.length := by omega
      have heq : ((i : Int) == ((bz a).size : Int)) = false := by rw [Hsz.out]; simp; omega
      have hib : i < (bz a).size := hlt
      have hn0 := wAt_succ hlt
      rw [← hs] at hn0
      unfold wstep at hn0
      dsimp only at hn0
      clear hs
      obtain ⟨b, hb⟩ : ∃ b, b = blankU a[i] := ⟨_, rfl⟩
      have Hbl := Lib.hid (show blankB ((bz a)[i].toNat : Int) = b by rw [hb]; exact blank_eq _)
      have hn : wAt a (i + 1) = if b = true then (if cur = [] then (ws, cur) else (ws ++ [cur], [])) else (ws, cur ++ [a[i]]) := by rw [hb]; exact hn0
      clear hn0
      cases b with
      | true =>
        rw [if_pos rfl] at hn
        clear hb
        by_cases h0 : cur = []
        · subst h0
          rw [if_pos rfl] at hn
          have Hn2 := Lib.hid hn
          have hf : fromV i (ws, ([] : Bs)) = -1 := rfl
          rw [hf]
          clear hn hf hext hcl
          go_wp2_with (go_at_call 57; refine (HIB.out _ _).mono ?_; rintro e w1 ⟨rfl, rfl⟩; rw [Hbl.out])
          go_roundw
          case rel => exact ⟨i + 1, A, c, by omega, by go_num, by rw [Hn2.out]; rfl, by rw [Hn2.out], Lib.hid (by rw [Hn2.out]; exact HO.out), HW⟩
          case measure => simp [intOf]; omega
        · rw [if_neg h0] at hn
          have Hn2 := Lib.hid hn
          obtain ⟨k, hk⟩ : ∃ k, k = i - cur.length := ⟨_, rfl⟩
          have hf : fromV i (ws, cur) = (k : Nat) := by unfold fromV; rw [if_neg h0, hk]; simp; omega
          rw [hf]
          rw [← hk] at hext
          have hki : k ≤ i := by omega
          have hk0 : 0 ≤ (k : Int) := by omega
          have hks : (k : Int) ≤ (i : Int) := by omega
          clear hn hf hcl hk h0
          go_wp2_with (first
            | (go_at_call 57; refine (HIB.out _ _).mono ?_; rintro e w1 ⟨rfl, rfl⟩; rw [Hbl.out])
            | (at_builtin; refine wpList_push rfl _ _ _ rfl eStr (v := .slice A ws.length c) rfl (World.ownsRow.alloc HO.out _) wr.heap.size (sv cur) rfl (by simp [go_sem]) rfl (by omega) (by simp; omega) ?_; intro v1 w5 hown1 hg1 hat1))
          obtain ⟨A2, c2, rfl⟩ := own_shape hown1
          have HW2 := Lib.hid ((HW.out.alloc (by omega) _).grown hg1 (by simp; omega) (fun q hq => (World.ownsRow.lt HO.out q hq).1))
          have HO2 := Lib.hid (show OwnT w5 B (.slice A2 (ws ++ [cur]).length c2) (ws ++ [cur]) by unfold OwnT; simpa using hown1)
          rw [show (ws.length + 1) = (ws ++ [cur]).length by simp]
          clear hown1 hg1 hat1
          go_wp2
          go_roundw
          case rel => exact ⟨i + 1, A2, c2, by omega, by go_num, by rw [Hn2.out]; rfl, by rw [Hn2.out], Lib.hid (by rw [Hn2.out]; exact HO2.out), HW2⟩
          case measure => simp [intOf]; omega
      | false =>
        rw [if_neg (by simp)] at hn
        have Hn2 := Lib.hid hn
        clear hn hb hext
        by_cases h0 : cur = []
        · subst h0
          have hf : fromV i (ws, ([] : Bs)) = -1 := rfl
          rw [hf]
          clear hf hcl
          go_wp2_with (go_at_call 57; refine (HIB.out _ _).mono ?_; rintro e w1 ⟨rfl, rfl⟩; rw [Hbl.out])
          go_roundw
          case rel => exact ⟨i + 1, A, c, by omega, by go_num, by rw [Hn2.out]; simp [fromV], by rw [Hn2.out], Lib.hid (by rw [Hn2.out]; exact HO.out), HW⟩
          case measure => simp [intOf]; omega
        · obtain ⟨f, hf⟩ : ∃ f, f = fromV i (ws, cur) := ⟨_, rfl⟩
          have hf0 : 0 ≤ f := by rw [hf]; unfold fromV; rw [if_neg h0]; simp; omega
          have Hf2 := Lib.hid (show fromV (i + 1) (ws, cur ++ [a[i]]) = f by rw [hf]; unfold fromV; rw [if_neg (by simp), if_neg h0]; simp; omega)
          rw [← hf]
          clear hf hcl h0
          go_wp2_with (go_at_call 57; refine (HIB.out _ _).mono ?_; rintro e w1 ⟨rfl, rfl⟩; rw [Hbl.out])
          go_roundw
          case rel => exact ⟨i + 1, A, c, by omega, by go_num, by rw [Hn2.out, Hf2.out], by rw [Hn2.out], Lib.hid (by rw [Hn2.out]; exact HO.out), HW⟩
          case measure => simp [intOf]; omega
end Go.Proofs.YtgfbmidpiamkhaaDoor
