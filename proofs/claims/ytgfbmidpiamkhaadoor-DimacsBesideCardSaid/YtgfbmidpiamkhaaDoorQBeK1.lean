/- DimacsBeside: the law, walked. -/
import Derived.Laws.Bits64b
import Derived.Test.YtgfbmidpiamkhaaDoorQBeD1
import Derived.Test.YtgfbmidpiamkhaaDoorQDiK1
import Derived.Test.YtgfbmidpiamkhaaDoorQFnRefSatMay
import Derived.Test.YtgfbmidpiamkhaaDoorZg
namespace Go.Proofs.YtgfbmidpiamkhaaDoor
open Go.RowKit Go.ChangeShapes Go.WideShapes Go.ChangeAt Go.Deep
open C01 D28 Go.Sort

set_option maxRecDepth 100000 in
theorem arg_uint {w : World} {v : Value} (h : Arg Tryd.prog w 25 v) : ∃ n : Int, v = .int .u64 n ∧ 0 ≤ n ∧ n ≤ 18446744073709551615 := by
  obtain ⟨H, enc, base, d, p, hw, hd, _⟩ := h
  obtain ⟨n, hx, _, _, hf⟩ := open_int Tryd.underlying25 hw hd
  refine ⟨n, hx, ?_⟩
  simp only [Lit.wf, Bool.and_eq_true, decide_eq_true_eq] at hf
  exact hf
theorem same_yes28 {s1 s2 : Value} {A : List (List Int)} {w : World} (h : Calls Tryd.prog 12 #[s1, s2] w (SamePost A A w)) : Calls Tryd.prog 12 #[s1, s2] w fun e w' => e = .returned (.bool true) ∧ ∃ n, w' = w.drewN n :=
  h.mono fun e w' h => ⟨h.1.trans (by simp), h.2⟩
theorem how_bits (how k : Nat) (h : (how : Int) ≤ 18446744073709551615) : bits .and .u64 ((how : Int) / 2 ^ k) 3 = ((how / 2 ^ k % 4 : Nat) : Int) := by
  have h1 : how / 2 ^ k < 18446744073709551616 := Nat.lt_of_le_of_lt (Nat.div_le_self _ _) (by omega)
  have h2 := bits_and_u64_nat (how / 2 ^ k) 3 h1 (by omega)
  have h3 : (how / 2 ^ k) &&& 3 = how / 2 ^ k % 4 := Nat.and_two_pow_sub_one_eq_mod _ 2
  rw [h3] at h2
  rw [← h2]
  congr 1
theorem sep_of (note : Bs) (how n : Nat) : (how / 2 ^ (n % 16) % 4 = 0 ∧ sepB note how n = [32]) ∨ (how / 2 ^ (n % 16) % 4 = 1 ∧ sepB note how n = [32, 9, 32]) ∨ (how / 2 ^ (n % 16) % 4 = 2 ∧ sepB note how n = [10]) ∨ (how / 2 ^ (n % 16) % 4 = 3 ∧ sepB note how n = ([32, 10, 99, 32] ++ note) ++ [10, 9]) := by
  have h := Nat.mod_lt (how / 2 ^ (n % 16)) (show 0 < 4 by omega)
  unfold sepB
  generalize how / 2 ^ (n % 16) % 4 = m at h
  match m, h with
  | 0, _ => exact .inl ⟨rfl, rfl⟩
  | 1, _ => exact .inr (.inl ⟨rfl, rfl⟩)
  | 2, _ => exact .inr (.inr (.inl ⟨rfl, rfl⟩))
  | 3, _ => exact .inr (.inr (.inr ⟨rfl, rfl⟩))
set_option maxRecDepth 100000 in
set_option maxHeartbeats 8000000 in
theorem walk_DimacsBeside (m : Int) (W : World) (hm : MaxAt m W) (v0 v1 v2 : Value) (a0 : Arg Tryd.prog W 24 v0) (a1 : Arg Tryd.prog W 9 v1) (a2 : Arg Tryd.prog W 25 v2) : Calls Tryd.prog 3 #[v0, v1, v2] W fun e W' => e = .returned (.bool true) ∧ Below W.heap.size W W' := by
  obtain ⟨vars, vC, C, rfl, hC, hv1, hv2⟩ := arg_question a0
  obtain ⟨s, rfl⟩ := arg_string a1
  obtain ⟨hw_, rfl, hhow0, hhow1⟩ := arg_uint a2
  obtain ⟨how, rfl⟩ : ∃ n : Nat, hw_ = n := ⟨hw_.toNat, by omega⟩
  clear a0 a1 a2
  obtain ⟨note, hb⟩ : ∃ b, b = s.data.toList := ⟨_, rfl⟩
  obtain rfl : s = bz note := by rw [hb]; exact bz_of s
  clear hb
  obtain ⟨Ac, cc, rfl, hmC, -⟩ := RSl.open_ hC
  obtain ⟨w1, hw1⟩ : ∃ w1, w1 = W.alloc (.cells #[.int .i64 vars, .slice Ac C.length cc] 24) := ⟨_, rfl⟩
  have HB1 := Lib.hid (show Below W.heap.size W w1 by rw [hw1]; exact below_alloc _ _)
  have r3 : w1.heap[W.heap.size]? = some (.cells #[.int .i64 vars, .slice Ac C.length cc] 24 (0, 0)) := by rw [hw1]; exact heap_alloc_new W _
  have HW1 := Lib.hid hw1
  have HM1 := Lib.hid (hm.up HB1.out)
  have HC1 := Lib.hid (RIntss.stable.up hC HB1.out)
  have q0 := cell_of_row _ _ 0 _ _ _ r3
  have q1 := cell_of_row _ _ 1 _ _ _ r3
  have HLi := Lib.hid (fun w (h : MaxAt m w) => lives_any m w h)
  have HY := Lib.hid (light_any _ C w1 HC1.out)
  have HMay := Lib.hid (refSatMay_any vars _ C w1 HC1.out)
  clear hw1 hC hm r3
  cases hlc : lightB28 C with
  | false =>
    rw [hlc] at HY
    clear hlc
    go_enter Tryd.func3, Tryd.ntmps3
    go_upto_region 1 with fail
    rw [← HW1.out]
    go_wp2_with (first
      | (go_at_call 7; refine HY.out.mono ?_; rintro e w1 ⟨rfl, rfl⟩)
      | (go_at_call 9; refine (HLi.out _ HM1.out).mono ?_; rintro e w9 ⟨rfl, hb9⟩; have HB9 := Lib.hid (HB1.out.trans (hb9.mono HB1.out.size)); clear hb9))
    go_ret
    exact ⟨rfl, HB9.out⟩
  | true =>
  have HLc := Lib.hid (light_yes hlc)
  rw [hlc] at HY
  clear hlc
  by_cases hmay : satMayN vars C = 0
  case neg =>
    have hm0 : ((satMayN vars C : Int) != 0) = true := bne_iff_ne.2 (by omega)
    obtain ⟨mc, hmc⟩ : ∃ mc, mc = satMayN vars C := ⟨_, rfl⟩
    rw [← hmc] at HMay hm0
    clear hmc hmay
    go_enter Tryd.func3, Tryd.ntmps3
    go_upto_region 1 with fail
    rw [← HW1.out]
    go_wp2_with (first
      | (go_at_call 7; refine HY.out.mono ?_; rintro e w1 ⟨rfl, rfl⟩)
      | (go_at_call 8; refine HMay.out.mono ?_; rintro e w2 ⟨rfl, hb2⟩; have HB2 := Lib.hid (HB1.out.trans (hb2.mono HB1.out.size)); have HM2 := Lib.hid (HM1.out.up hb2); clear hb2)
      | (go_at_call 9; refine (HLi.out _ HM2.out).mono ?_; rintro e w9 ⟨rfl, hb9⟩; have HB9 := Lib.hid (HB2.out.trans (hb9.mono HB2.out.size)); clear hb9))
    go_ret
    exact ⟨rfl, HB9.out⟩
  have Hmay := Lib.hid hmay
  rw [hmay] at HMay
  clear hmay
  have Hsz := Lib.hid (show ((bz note).size : Int) = note.length from rfl)
  rcases Nat.lt_or_ge 300 note.length with h300 | h300
  · have hlen : (300 : Int) < ((bz note).size : Int) := by rw [Hsz.out]; omega
    clear h300
    go_enter Tryd.func3, Tryd.ntmps3
    go_upto_region 1 with fail
    rw [← HW1.out]
    go_wp2_with (first
      | (go_at_call 7; refine HY.out.mono ?_; rintro e w1 ⟨rfl, rfl⟩)
      | (go_at_call 8; refine HMay.out.mono ?_; rintro e w2 ⟨rfl, hb2⟩; have HB2 := Lib.hid (HB1.out.trans (hb2.mono HB1.out.size)); have HM2 := Lib.hid (HM1.out.up hb2); clear hb2)
      | (go_at_call 9; refine (HLi.out _ HM2.out).mono ?_; rintro e w9 ⟨rfl, hb9⟩; have HB9 := Lib.hid (HB2.out.trans (hb9.mono HB2.out.size)); clear hb9))
    go_ret
    exact ⟨rfl, HB9.out⟩
  have hlen : ¬ (300 : Int) < ((bz note).size : Int) := by rw [Hsz.out]; omega
  have hlen' : decide ((300 : Int) < ((bz note).size : Int)) = false := decide_eq_false hlen
  obtain ⟨hv0, hv1024, -⟩ := may_lits Hmay.out
  obtain ⟨q, hq⟩ : ∃ q : Bsd, q = ⟨note, vars, C⟩ := ⟨_, rfl⟩
  have z0 : (⟨#[]⟩ : ByteArray) = bz [] := rfl
  have z1 : (⟨#[99]⟩ : ByteArray) = bz [99] := rfl
  have z2 : (⟨#[10, 10]⟩ : ByteArray) = bz [10, 10] := rfl
  have z3 : (⟨#[10]⟩ : ByteArray) = bz [10] := rfl
  have z4 : (⟨#[32]⟩ : ByteArray) = bz [32] := rfl
  have z5 : (⟨#[32, 9, 32]⟩ : ByteArray) = bz [32, 9, 32] := rfl
  have z6 : (⟨#[32, 10, 99, 32]⟩ : ByteArray) = bz [32, 10, 99, 32] := rfl
  have z7 : (⟨#[10, 9]⟩ : ByteArray) = bz [10, 9] := rfl
  go_enter Tryd.func3, Tryd.ntmps3
  rw [z0, z1, z2, z3, z4, z5, z6, z7]
  go_upto_region 1 with fail
  rw [← HW1.out]
  go_upto_region 3 with (first
      | (go_at_call 7; refine HY.out.mono ?_; rintro e w1 ⟨rfl, rfl⟩)
      | (go_at_call 8; refine HMay.out.mono ?_; rintro e w2 ⟨rfl, hb2⟩; have HB2 := Lib.hid hb2; clear hb2))
  have HB2W := Lib.hid (HB1.out.trans (HB2.out.mono HB1.out.size))
  have HM2 := Lib.hid (HM1.out.up HB2.out)
  have p0 := (HB2.out.cell (p := ⟨_, _, _⟩) (World.block_lt_of_cell? w1 _ q0)).trans q0
  have p1 := (HB2.out.cell (p := ⟨_, _, _⟩) (World.block_lt_of_cell? w1 _ q1)).trans q1
  have HC2 := Lib.hid (RIntss.stable.up HC1.out HB2.out)
  clear q0 q1 HY HMay HM1 HC1 HW1
  go_wp2
  go_loop [34] (fun iv => ∃ i : Nat, i ≤ note.length ∧ iv = .int .i64 i ∧ Hid ((10 : UInt8) ∉ note.take i)) (fun iv => note.length - (intOf iv).toNat)
  case atStart => exact ⟨0, Nat.zero_le _, rfl, Lib.hid (by simp)⟩
  case round =>
    obtain ⟨i, hi, rfl, HNo⟩ := hrel
    rcases Nat.lt_or_ge i note.length with hlt | hge
    · have hix : i < (bz note).size := hlt
      have hbi := byteL_eq hix
      by_cases h10 : note[i] = 10
      · have hB : byteL note i = 10 := by rw [byteL_get hlt]; exact congrArg UInt8.toNat h10
        rw [hB] at hbi
        have hltS : (i : Int) < ((bz note).size : Int) := by rw [Hsz.out]; omega
        clear h10 hB
        go_wp2_with (go_at_call 9; refine (HLi.out _ HM2.out).mono ?_; rintro e w9 ⟨rfl, hb9⟩; have HB9 := Lib.hid (HB2W.out.trans (hb9.mono HB2W.out.size)); clear hb9)
        go_ret
        exact ⟨rfl, HB9.out⟩
      · have hne : ((((bz note)[i].toNat : Nat) : Int) == 10) = false := by
          rw [hbi, byteL_get hlt, beq_eq_false_iff_ne]
          intro e
          exact h10 (UInt8.toNat_inj.1 (by have : (10 : UInt8).toNat = 10 := rfl; omega))
        have HN2 := Lib.hid (show (10 : UInt8) ∉ note.take (i + 1) by
          rw [List.take_succ_eq_append_getElem hlt]
          intro hm
          rcases List.mem_append.1 hm with h | h
          · exact HNo.out h
          · simp at h; exact h10 h.symm)
        have hltS : (i : Int) < ((bz note).size : Int) := by rw [Hsz.out]; omega
        clear h10
        go_wp2
        go_round
        case rel => exact ⟨i + 1, hlt, by go_num, HN2⟩
        case measure => simp [intOf]; omega
    · obtain rfl : i = note.length := by omega
      have hltS : ¬ ((note.length : Int) < ((bz note).size : Int)) := by rw [Hsz.out]; omega
      have HNo' := Lib.hid (show (10 : UInt8) ∉ note by have := HNo.out; rwa [List.take_length] at this)
      have HPr := Lib.hid (Print_any vars _ C w2 HC2.out HLc.out ⟨by omega, by omega⟩)
      have hpl := printQ_le HLc.out ⟨hv0, hv1024⟩
      have a1 := fun (w : World) => add_bz (P := Tryd.prog) (w := w) [99] note (by simp; omega)
      have a2 := fun (w : World) => add_bz (P := Tryd.prog) (w := w) ([99] ++ note) [10, 10] (by simp; omega)
      have a3 := fun (w : World) => add_bz (P := Tryd.prog) (w := w) ([99] ++ note ++ [10, 10]) (printQ vars C) (by simp; omega)
      have hS : [99] ++ note ++ [10, 10] ++ printQ vars C = q.S := by rw [Bsd.S_eq, hq]; rfl
      obtain ⟨y1, hy1⟩ : ∃ y, y = [99] ++ note := ⟨_, rfl⟩
      rw [← hy1] at a1 a2 a3 hS
      obtain ⟨y2, hy2⟩ : ∃ y, y = y1 ++ [10, 10] := ⟨_, rfl⟩
      rw [← hy2] at a2 a3 hS
      have Hq := Lib.hid hq
      have Hqn := Lib.hid (show q.note = note by rw [hq])
      have Hqv := Lib.hid (show q.vars = vars by rw [hq])
      have Hqc := Lib.hid (show q.cls = C by rw [hq])
      rw [hS] at a3
      clear hy1 hy2 hS hpl HNo hq
      go_upto_region 12 with (go_at_call 10; with_reducible refine HPr.out.mono ?_; rintro e w3 ⟨rfl, hb3⟩; have HB3 := Lib.hid hb3; clear hb3)
      obtain ⟨LS, hLS⟩ : ∃ n, n = q.S.length := ⟨_, rfl⟩
      have HLS := Lib.hid hLS
      have HszS := Lib.hid (show ((bz q.S).size : Int) = LS by rw [hLS]; rfl)
      have HH := Lib.hid (show note.length + 3 < q.H by have := q.H_pos; rw [Hqn.out] at this; exact this)
      have HLen := Lib.hid (show q.H ≤ LS by have := q.len; omega)
      have HOl := Lib.hid (fun i => q.out_len how i (by rw [Hqc.out]; exact HLc.out) (by rw [Hqv.out]; exact ⟨hv0, hv1024⟩) (by rw [Hqn.out]; exact h300))
      have hLSl : LS ≤ 1000000 := by
        have h1 := (HLc.out.pre C.length)
        rw [List.take_length] at h1
        have h2 : q.head.length ≤ 700000 := by
          have := (HOl.out q.S.length).1
          rw [q.out_all] at this
          simp only [List.length_append] at this; omega
        have h3 := q.len
        rw [Hqc.out] at h3
        have : q.head.length = q.H := rfl
        omega
      clear hLS
      go_wp2
      go_loop [12, 9, 10, 11] (fun iv ov nv fv => ∃ i : Nat, i ≤ LS ∧ iv = .int .i64 i ∧ ov = sv (q.out how i) ∧ nv = .int .u64 (q.cnt i) ∧ fv = .bool (decide (i < q.H))) (fun iv _ _ _ => LS - (intOf iv).toNat)
      case atStart => exact ⟨0, Nat.zero_le _, rfl, by unfold Bsd.out; simp [transL], by unfold Bsd.cnt; simp, by rw [decide_eq_true (by have := HH.out; omega)]⟩
      case round =>
        obtain ⟨i, hi, rfl, rfl, rfl, rfl⟩ := hrel
        rcases Nat.lt_or_ge i LS with hlt | hge
        · have hltL : i < q.S.length := by rw [← HLS.out]; exact hlt
          obtain ⟨c, hc⟩ : ∃ c, c = q.S[i] := ⟨_, rfl⟩
          have hex : (bz q.S).extract i (i + 1) = bz [c] := by
            rw [bz_ext, show i + 1 - i = 1 by omega, hc]
            congr 1
            rw [List.drop_eq_getElem_cons hltL]; rfl
          have hltS : (i : Int) < ((bz q.S).size : Int) := by rw [HszS.out]; omega
          have hle1 : (i : Int) + 1 ≤ ((bz q.S).size : Int) := by rw [HszS.out]; omega
          obtain ⟨hOl, hCl⟩ := HOl.out i
          obtain ⟨X, hX⟩ : ∃ X, X = q.out how i := ⟨_, rfl⟩
          obtain ⟨N, hN⟩ : ∃ N, N = q.cnt i := ⟨_, rfl⟩
          have HOh := Lib.hid (fun (h : i < q.H) => q.out_head how h hltL)
          have HOt := Lib.hid (fun (h : q.H ≤ i) => q.out_tail how h hltL)
          have HBf := Lib.hid (fun (h : i + 1 < q.H) => q.before h hltL)
          have HAe := Lib.hid (fun (h : i + 1 = q.H) => q.at_end h hltL)
          rw [← hc, ← hX, ← hN] at HOh HOt
          rw [← hc] at HBf HAe
          rw [← hX] at hOl
          rw [← hN] at hCl
          rw [← hX, ← hN]
          have b1 := fun (w : World) => add_bz (P := Tryd.prog) (w := w) X [c] (by simp; omega)
          clear hc hX hN a1 a2 a3 HOl
          rcases Nat.lt_trichotomy (i + 1) q.H with hA | hA | hA
          · have hfi : decide (i < q.H) = true := decide_eq_true (by omega)
            have Hfj := Lib.hid (show decide (i + 1 < q.H) = true from decide_eq_true hA)
            obtain ⟨h1, h2⟩ := HOh.out (by omega)
            have H1 := Lib.hid h1
            have H2 := Lib.hid h2
            rw [hfi]
            clear h1 h2 HOh HOt HAe hfi
            by_cases h10 : c = 10
            · have e10 : ((bz [c]).toList == (bz [10]).toList) = true := by rw [h10]; simp
              have hb := HBf.out hA h10
              rw [Hqn.out] at hb
              have hgt : ¬ (((bz note).size : Int) + 2 < (i : Int)) := by rw [Hsz.out]; omega
              have hgt' : decide (((bz note).size : Int) + 2 < (i : Int)) = false := decide_eq_false hgt
              clear h10 hb HBf hA
              go_wp2
              go_round
              case rel => exact ⟨i + 1, hlt, by go_num, by rw [H1.out], by rw [H2.out], by rw [Hfj.out]⟩
              case measure => simp [intOf]; omega
            · have e10 : ((bz [c]).toList == (bz [10]).toList) = false := by rw [bz_beq]; simp [h10]
              clear h10 HBf hA
              go_wp2
              go_round
              case rel => exact ⟨i + 1, hlt, by go_num, by rw [H1.out], by rw [H2.out], by rw [Hfj.out]⟩
              case measure => simp [intOf]; omega
          · have hfi : decide (i < q.H) = true := decide_eq_true (by omega)
            have Hfj := Lib.hid (show decide (i + 1 < q.H) = false from decide_eq_false (by omega))
            obtain ⟨h1, h2⟩ := HOh.out (by omega)
            have H1 := Lib.hid h1
            have H2 := Lib.hid h2
            have h10 := HAe.out hA
            have e10 : ((bz [c]).toList == (bz [10]).toList) = true := by rw [h10]; simp
            have hgt : (((bz note).size : Int) + 2 < (i : Int)) := by rw [Hsz.out]; have := HH.out; omega
            rw [hfi]
            clear h1 h2 HOh HOt HAe hfi h10 HBf hA
            go_wp2
            go_round
            case rel => exact ⟨i + 1, hlt, by go_num, by rw [H1.out], by rw [H2.out], by rw [Hfj.out]⟩
            case measure => simp [intOf]; omega
          · have hfi : decide (i < q.H) = false := decide_eq_false (by omega)
            have Hfj := Lib.hid (show decide (i + 1 < q.H) = false from decide_eq_false (by omega))
            obtain ⟨h1, h2⟩ := HOt.out (by omega)
            have H1 := Lib.hid h1
            have H2 := Lib.hid h2
            have hgt : (((bz note).size : Int) + 2 < (i : Int)) := by rw [Hsz.out]; have := HH.out; omega
            rw [hfi]
            clear h1 h2 HOh HOt HAe hfi HBf hA
            by_cases h10 : c = 10
            · have e10 : ((bz [c]).toList == (bz [10]).toList) = true := by rw [h10]; simp
              have e32 : ((bz [c]).toList == (bz [32]).toList) = false := by rw [bz_beq, h10]; decide
              have h32 : c ≠ 32 := by rw [h10]; decide
              simp only [if_neg h32, Nat.add_zero] at H1 H2
              clear h10 h32
              go_wp2
              go_round
              case rel => exact ⟨i + 1, hlt, by go_num, by rw [H1.out], by rw [H2.out], by rw [Hfj.out]⟩
              case measure => simp [intOf]; omega
            have e10 : ((bz [c]).toList == (bz [10]).toList) = false := by rw [bz_beq]; simp [h10]
            by_cases h32 : c = 32
            case neg =>
              have e32 : ((bz [c]).toList == (bz [32]).toList) = false := by rw [bz_beq]; simp [h32]
              simp only [if_neg h32, Nat.add_zero] at H1 H2
              clear h10 h32
              go_wp2
              go_round
              case rel => exact ⟨i + 1, hlt, by go_num, by rw [H1.out], by rw [H2.out], by rw [Hfj.out]⟩
              case measure => simp [intOf]; omega
            have e32 : ((bz [c]).toList == (bz [32]).toList) = true := by rw [h32]; simp
            simp only [if_pos h32] at H1 H2
            have Hc32 := Lib.hid h32
            clear h10 h32
            go_upto_region 21 with fail
            have hnl300 : note.length ≤ 300 := h300
            rw [Hqn.out] at H1
            rcases sep_of note how (N + 1) with ⟨hs, hsp⟩ | ⟨hs, hsp⟩ | ⟨hs, hsp⟩ | ⟨hs, hsp⟩
            · have hm : bits .and .u64 ((how : Int) / 2 ^ ((N + 1) % 16)) 3 = 0 := by rw [how_bits how _ hhow1, hs]; rfl
              have H3 := Lib.hid (H1.out.trans (by rw [hsp]))
              rw [hm]
              clear hm hs hsp
              go_wp2
              go_round
              case rel => exact ⟨i + 1, hlt, by go_num, by rw [H3.out, Hc32.out], by rw [H2.out]; rfl, by rw [Hfj.out]⟩
              case measure => simp [intOf]; omega
            · have hm : bits .and .u64 ((how : Int) / 2 ^ ((N + 1) % 16)) 3 = 1 := by rw [how_bits how _ hhow1, hs]; rfl
              have H3 := Lib.hid (H1.out.trans (by rw [hsp]))
              have b2 := fun (w : World) => add_bz (P := Tryd.prog) (w := w) X [32, 9, 32] (by simp; omega)
              rw [hm]
              clear hm hs hsp
              go_wp2
              go_round
              case rel => exact ⟨i + 1, hlt, by go_num, by rw [H3.out], by rw [H2.out]; rfl, by rw [Hfj.out]⟩
              case measure => simp [intOf]; omega
            · have hm : bits .and .u64 ((how : Int) / 2 ^ ((N + 1) % 16)) 3 = 2 := by rw [how_bits how _ hhow1, hs]; rfl
              have H3 := Lib.hid (H1.out.trans (by rw [hsp]))
              have b2 := fun (w : World) => add_bz (P := Tryd.prog) (w := w) X [10] (by simp; omega)
              rw [hm]
              clear hm hs hsp
              go_wp2
              go_round
              case rel => exact ⟨i + 1, hlt, by go_num, by rw [H3.out], by rw [H2.out]; rfl, by rw [Hfj.out]⟩
              case measure => simp [intOf]; omega
            · have hm : bits .and .u64 ((how : Int) / 2 ^ ((N + 1) % 16)) 3 = 3 := by rw [how_bits how _ hhow1, hs]; rfl
              have H3 := Lib.hid (H1.out.trans (by rw [hsp]))
              have b2 := fun (w : World) => add_bz (P := Tryd.prog) (w := w) [32, 10, 99, 32] note (by simp; omega)
              obtain ⟨y3, hy3⟩ : ∃ y, y = [32, 10, 99, 32] ++ note := ⟨_, rfl⟩
              have hy3l : y3.length ≤ 304 := by rw [hy3]; simp; omega
              rw [← hy3] at b2 H3
              have b3 := fun (w : World) => add_bz (P := Tryd.prog) (w := w) y3 [10, 9] (by simp; omega)
              obtain ⟨y4, hy4⟩ : ∃ y, y = y3 ++ [10, 9] := ⟨_, rfl⟩
              have hy4l : y4.length ≤ 306 := by rw [hy4]; simp; omega
              rw [← hy4] at b3 H3
              have b4 := fun (w : World) => add_bz (P := Tryd.prog) (w := w) X y4 (by omega)
              clear hy3 hy4
              rw [hm]
              clear hm hs hsp
              go_wp2
              go_round
              case rel => exact ⟨i + 1, hlt, by go_num, by rw [H3.out], by rw [H2.out]; rfl, by rw [Hfj.out]⟩
              case measure => simp [intOf]; omega
        · obtain rfl : i = LS := by omega
          have hltS : ¬ ((i : Int) < ((bz q.S).size : Int)) := by rw [HszS.out]; omega
          obtain ⟨hOl, -⟩ := HOl.out i
          have HPk := Lib.hid (show ∃ rest, POk (q.out how i) vars C.length rest C by
            have h := q.pok how (by rw [Hqc.out]; exact HLc.out) (by rw [Hqc.out, Hqv.out]; exact Hmay.out) (by rw [Hqn.out]; exact HNo'.out)
            rw [← HLS.out, Hqv.out, Hqc.out] at h
            exact ⟨_, h⟩)
          obtain ⟨X, hX⟩ : ∃ X, X = q.out how i := ⟨_, rfl⟩
          rw [← hX] at HPk hOl ⊢
          have HPa := Lib.hid (HPk.out.elim fun rest hpk => Parse_ok X m vars C.length rest C w3 (HM2.out.up HB3.out) (by omega) hpk Hmay.out)
          have p0' := (HB3.out.cell (p := ⟨_, _, _⟩) (World.block_lt_of_cell? w2 _ p0)).trans p0
          have p1' := (HB3.out.cell (p := ⟨_, _, _⟩) (World.block_lt_of_cell? w2 _ p1)).trans p1
          have HC3 := Lib.hid (RIntss.stable.up HC2.out HB3.out)
          have HB3W := Lib.hid (HB2W.out.trans (HB3.out.mono HB2W.out.size))
          have HM3 := Lib.hid (HM2.out.up HB3.out)
          clear hX HPk HOl a1 a2 a3 p0 p1
          go_upto_region 29 with (go_at_call 11; with_reducible refine HPa.out.mono ?_; rintro e w4 ⟨vx, rfl, hvx, hb4⟩; obtain ⟨Ax, cx, rfl, hmx, -⟩ := RSl.open_ hvx; have HVx := Lib.hid hvx; have HB4 := Lib.hid hb4; clear hb4 hvx)
          obtain ⟨w5, hw5⟩ : ∃ w5, w5 = w4.alloc (.cells #[.int .i64 vars, .slice Ax C.length cx] 24) := ⟨_, rfl⟩
          have hb5 : Below w4.heap.size w4 w5 := by rw [hw5]; exact below_alloc _ _
          have HB5 := Lib.hid (HB4.out.trans (hb5.mono HB4.out.size))
          have r5 : w5.heap[w4.heap.size]? = some (.cells #[.int .i64 vars, .slice Ax C.length cx] 24 (0, 0)) := by rw [hw5]; exact heap_alloc_new _ _
          have HSa := Lib.hid (same_yes28 (Same_any _ _ C C w5 (RIntss.stable.up HVx.out hb5) (RIntss.stable.up HC3.out HB5.out)))
          rw [← hw5]
          have x0 := cell_of_row _ _ 0 _ _ _ r5
          have x1 := cell_of_row _ _ 1 _ _ _ r5
          have p0 := (HB5.out.cell (p := ⟨_, _, _⟩) (World.block_lt_of_cell? w3 _ p0')).trans p0'
          have p1 := (HB5.out.cell (p := ⟨_, _, _⟩) (World.block_lt_of_cell? w3 _ p1')).trans p1'
          have hvv : (vars == vars) = true := by simp
          have HB5W := Lib.hid (HB3W.out.trans (HB5.out.mono HB3W.out.size))
          have HM5 := Lib.hid (HM3.out.up HB5.out)
          have Hd5 := Lib.hid (fun a => below_drewN (Below.refl w5.heap.size w5) a)
          clear hw5 hb5 r5 p0' p1' HPr HPa
          go_wp2_with (first
            | (go_at_call 12; with_reducible refine HSa.out.mono ?_; rintro e w8 ⟨rfl, q9, rfl⟩; have HB8 := Lib.hid (HB5W.out.trans ((Hd5.out q9).mono HB5W.out.size)); have HM8 := Lib.hid (HM5.out.up (Hd5.out q9)))
            | (go_at_call 9; refine (HLi.out _ HM8.out).mono ?_; rintro e w9 ⟨rfl, hb9⟩; have HB9 := Lib.hid (HB8.out.trans (hb9.mono HB8.out.size)); clear hb9))
          go_ret
          exact ⟨rfl, HB9.out⟩
end Go.Proofs.YtgfbmidpiamkhaaDoor
