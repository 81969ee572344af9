/- CoordPrints: the law, walked. -/
import Derived.Test.YtldhgdoeehnbjaaDoorCoK1
import Derived.Test.YtldhgdoeehnbjaaDoorCoA
import Derived.Test.YtldhgdoeehnbjaaDoorCoW11
import Derived.Lib.QuietBelow
namespace Go.Proofs.YtldhgdoeehnbjaaDoor
open Go.RowKit Go.Sort

structure SevAt (m : Int) (W : World) (a b c d e f g : ByteArray) (w1 : World) : Prop where
  below : Below W.heap.size W w1
  lt : W.heap.size + 1 < w1.heap.size
  gv : ∀ j, w1.cell? ⟨W.heap.size, j, none⟩ = #[Value.string a, .string b, .string c][j]?
  ky : ∀ j, w1.cell? ⟨W.heap.size + 1, j, none⟩ = #[Value.string d, .string e, .string f, .string g][j]?
  max : MaxAt m w1
theorem SevAt.up {m : Int} {W : World} {a b c d e f g : ByteArray} {w1 w2 : World} (h : SevAt m W a b c d e f g w1) (hb : Below w1.heap.size w1 w2) : SevAt m W a b c d e f g w2 := by
  have hl := h.lt
  exact ⟨h.below.trans (hb.mono h.below.size), Nat.lt_of_lt_of_le h.lt hb.size, fun j => (hb.cell (p := ⟨W.heap.size, j, none⟩) (by show W.heap.size < _; omega)).trans (h.gv j), fun j => (hb.cell (p := ⟨W.heap.size + 1, j, none⟩) (by show W.heap.size + 1 < _; omega)).trans (h.ky j), h.max.up hb⟩
theorem SevAt.cells {m : Int} {W : World} {a b c d e f g : ByteArray} {w1 : World} (h : SevAt m W a b c d e f g w1) :
    w1.cell? ⟨W.heap.size, 0, none⟩ = some (.string a) ∧ w1.cell? ⟨W.heap.size, 1, none⟩ = some (.string b) ∧ w1.cell? ⟨W.heap.size, 2, none⟩ = some (.string c) ∧
    w1.cell? ⟨W.heap.size + 1, 0, none⟩ = some (.string d) ∧ w1.cell? ⟨W.heap.size + 1, 1, none⟩ = some (.string e) ∧ w1.cell? ⟨W.heap.size + 1, 2, none⟩ = some (.string f) ∧ w1.cell? ⟨W.heap.size + 1, 3, none⟩ = some (.string g) :=
  ⟨h.gv 0, h.gv 1, h.gv 2, h.ky 0, h.ky 1, h.ky 2, h.ky 3⟩
theorem sev_start {m : Int} {W w1 : World} {a b c d e f g : ByteArray} (hm : MaxAt m W) (h : w1 = allocs W [.cells #[.string a, .string b, .string c] 35, .cells #[.string d, .string e, .string f, .string g] 30,
    .cells #[.string a, .string b, .string c, .string d, .string e, .string f, .string g] 9]) : SevAt m W a b c d e f g w1 ∧ ∀ j, j < 7 → w1.cell? ⟨W.heap.size + 1 + 1, j, none⟩ = some (.string ([a, b, c, d, e, f, g].getD j ⟨#[]⟩)) := by
  have h0 : ∀ i o, [Obj.cells #[.string a, .string b, .string c] 35, .cells #[.string d, .string e, .string f, .string g] 30,
      .cells #[.string a, .string b, .string c, .string d, .string e, .string f, .string g] 9][i]? = some o → w1.heap[W.heap.size + i]? = some o := fun i o e => by rw [h]; exact (allocs_at W _ i).trans e
  have hs : w1.heap.size = W.heap.size + 3 := by rw [h, allocs_heap]; simp
  have hb : Below W.heap.size W w1 := by rw [h]; exact allocs_below _ W W (Below.refl _ _)
  refine ⟨⟨hb, by omega, fun j => Lib.cell_of_heap (h0 0 _ rfl) j, fun j => Lib.cell_of_heap (h0 1 _ rfl) j, hm.up hb⟩, fun j hj => ?_⟩
  have h3 := Lib.cell_of_heap (h0 2 _ rfl) j
  rw [show W.heap.size + 1 + 1 = W.heap.size + 2 from rfl, h3]
  match j, hj with
  | 0, _ => rfl
  | 1, _ => rfl
  | 2, _ => rfl
  | 3, _ => rfl
  | 4, _ => rfl
  | 5, _ => rfl
  | 6, _ => rfl
theorem gavV_shape (x : Option Three) : ∃ p q r n, gavV x = .tuple #[.agg #[.string p, .string q, .string r], .int .i64 n] := by
  rcases x with _ | ⟨p, q, r⟩
  · exact ⟨_, _, _, _, rfl⟩
  · exact ⟨_, _, _, _, rfl⟩
theorem keyV_shape (x : Option Four) : ∃ p q r s n, keyV x = .tuple #[.agg #[.string p, .string q, .string r, .string s], .int .i64 n] := by
  rcases x with _ | ⟨p, q, r, s⟩
  · exact ⟨_, _, _, _, _, rfl⟩
  · exact ⟨_, _, _, _, _, rfl⟩
theorem gav_back {a b c : ByteArray} (h : mayG a b c = true) : gavV (parseG (pcs (a ++ ⟨#[58]⟩ ++ b ++ ⟨#[58]⟩ ++ c))) = .tuple #[.agg #[.string a, .string b, .string c], .int .i64 0] := by
  have h' := h
  unfold mayG at h'
  simp only [Bool.and_eq_true] at h'
  rw [pcs_three (idS_no h'.1.1) (idS_no h'.1.2) (verS_no h'.2)]
  show gavV (if mayG a b c = true then some (a, b, c) else none) = _
  rw [if_pos h]; rfl
theorem empty_is {d : ByteArray} (h : emptyB d = true) : d = ⟨#[]⟩ := by
  unfold emptyB at h
  rw [beq_iff_eq, ByteArray.toList_eq] at h
  cases d with
  | mk l => congr 1; simpa using h
theorem key_back {a b c d : ByteArray} (h : mayK a b c d = true) : keyV (parseK (pcs (printK a b c d))) = .tuple #[.agg #[.string a, .string b, .string c, .string d], .int .i64 0] := by
  have h' := h
  unfold mayK at h'
  simp only [Bool.and_eq_true, Bool.or_eq_true] at h'
  unfold printK
  cases he : emptyB d with
  | true =>
    obtain rfl := empty_is he
    rw [if_pos rfl, pcs_three (idS_no h'.1.1.1) (idS_no h'.1.1.2) (idS_no h'.1.2)]
    show keyV (if mayK a b c ⟨#[]⟩ = true then some (a, b, c, ⟨#[]⟩) else none) = _
    rw [if_pos h]; rfl
  | false =>
    have hd : idS d = true := by rcases h'.2 with h2 | h2; · rw [he] at h2; cases h2
                                 · exact h2
    rw [if_neg (by simp), pcs_four (idS_no h'.1.1.1) (idS_no h'.1.1.2) (idS_no h'.1.2) (idS_no hd)]
    show keyV (if mayK a b c d = true ∧ emptyB d = false then some (a, b, c, d) else none) = _
    rw [if_pos ⟨h, he⟩]; rfl
theorem printG_size (a b c : ByteArray) : (a ++ ⟨#[58]⟩ ++ b ++ ⟨#[58]⟩ ++ c).size = a.size + b.size + c.size + 2 := by
  rw [ByteArray.size_append, ByteArray.size_append, ByteArray.size_append, ByteArray.size_append]
  show a.size + 1 + b.size + 1 + c.size = _
  omega
theorem printK_size (a b c d : ByteArray) : (printK a b c d).size ≤ a.size + b.size + c.size + d.size + 3 := by
  unfold printK
  split
  · rw [printG_size]; omega
  · rw [ByteArray.size_append, printG_size, ByteArray.size_append]
    show a.size + b.size + c.size + 2 + (1 + d.size) ≤ _
    omega
set_option maxRecDepth 100000 in
set_option maxHeartbeats 4000000 in
theorem walk_CoordPrints (m : Int) (W : World) (hm : MaxAt m W) (v0 v1 : Value) (a0 : Arg Tryd.prog W 35 v0) (a1 : Arg Tryd.prog W 30 v1) : Calls Tryd.prog 10 #[v0, v1] W fun e W' => e = .returned (.bool true) ∧ Below W.heap.size W W' := by
  obtain ⟨a, b, c, rfl⟩ := arg_gav a0
  obtain ⟨d, e, f, g, rfl⟩ := arg_key a1
  clear a0 a1
  have HL := Lib.hid (fun w (hm : SevAt m W a b c d e f g w) => (lives_any m w hm.max).mono (R' := fun x w' => x = .returned (.bool true) ∧ SevAt m W a b c d e f g w') (fun _ _ h => ⟨h.1, hm.up h.2⟩))
  obtain ⟨w1, hw1⟩ : ∃ w1, w1 = allocs W [.cells #[.string a, .string b, .string c] 35, .cells #[.string d, .string e, .string f, .string g] 30,
    .cells #[.string a, .string b, .string c, .string d, .string e, .string f, .string g] 9] := ⟨_, rfl⟩
  obtain ⟨hN, hG⟩ := sev_start hm hw1
  have HN := Lib.hid hN
  have HG := Lib.hid hG
  have HW1 := Lib.hid hw1
  clear hw1 hm hN hG
  go_enter Tryd.func10, Tryd.ntmps10
  go_upto_region 2 with (fail)
  rw [show ((((W.alloc (.cells #[.string a, .string b, .string c] 35)).alloc (.cells #[.string d, .string e, .string f, .string g] 30))).alloc (.cells #[.string a, .string b, .string c, .string d, .string e, .string f, .string g] 9)) = w1 from HW1.out.symm]
  have Hall : Hid ((∀ j, j < 7 → ([a, b, c, d, e, f, g].getD j ⟨#[]⟩).size ≤ 400) → a.size ≤ 400 ∧ b.size ≤ 400 ∧ c.size ≤ 400 ∧ d.size ≤ 400 ∧ e.size ≤ 400 ∧ f.size ≤ 400 ∧ g.size ≤ 400) :=
    Lib.hid (fun h => ⟨h 0 (by omega), h 1 (by omega), h 2 (by omega), h 3 (by omega), h 4 (by omega), h 5 (by omega), h 6 (by omega)⟩)
  generalize [a, b, c, d, e, f, g] = L at HG Hall
  go_loop [27] (fun sv => ∃ k : Nat, k ≤ 7 ∧ sv = .int .i64 k ∧ Hid (∀ j, j < k → (L.getD j ⟨#[]⟩).size ≤ 400)) (fun sv => 7 - (intOf sv).toNat)
  case atStart => exact ⟨0, Nat.zero_le _, rfl, Lib.hid (fun j hj => absurd hj (Nat.not_lt_zero _))⟩
  case round =>
    obtain ⟨k, hk9, rfl, Hi⟩ := hrel
    by_cases hk : k < 7
    · have hc := HG.out k hk
      rcases Nat.lt_or_ge 400 (L.getD k ⟨#[]⟩).size with h | h
      · generalize L.getD k ⟨#[]⟩ = x at hc h
        go_wp2_with (go_at_call 11; with_reducible refine (HL.out _ HN.out).mono ?_; rintro e w4 ⟨rfl, hb⟩; have HB3 := Lib.hid hb; clear hb)
        go_ret
        exact ⟨rfl, HB3.out.below⟩
      · have Hn := Lib.hid (show ∀ j, j < k + 1 → (L.getD j ⟨#[]⟩).size ≤ 400 from fun j hj => by
          rcases Nat.lt_or_ge j k with h' | h'
          · exact Hi.out j h'
          · rw [show j = k by omega]; exact h)
        generalize L.getD k ⟨#[]⟩ = x at hc h
        go_wp2
        go_round
        case rel => exact ⟨k + 1, by omega, by go_num, Hn⟩
        case measure => simp [intOf]; omega
    · obtain rfl : k = 7 := by omega
      obtain ⟨ha, hb, hc, hd, he, hf, hg⟩ := Hall.out Hi.out
      have PG := Lib.hid (fun w => PrintGav_any a b c w (by omega) (by omega) (by omega))
      have PK := Lib.hid (fun w => PrintKey_any d e f g w (by omega) (by omega) (by omega) (by omega))
      have PKr := Lib.hid (fun w => refPrintKey_any d e f g w (by omega) (by omega) (by omega) (by omega))
      have hsz := printK_size d e f g
      have XG := Lib.hid (fun w (hm : MaxAt m w) => ParseGav_any (a ++ ⟨#[58]⟩ ++ b ++ ⟨#[58]⟩ ++ c) m w (by rw [printG_size]; omega) hm)
      have XK := Lib.hid (fun w (hm : MaxAt m w) => ParseKey_any (printK d e f g) m w (by omega) hm)
      have MG := Lib.hid (fun w => refMayGav_any a b c w (by omega) (by omega) (by omega))
      have MK := Lib.hid (fun w => refMayKey_any d e f g w (by omega) (by omega) (by omega) (by omega))
      have BG := Lib.hid (fun h => gav_back (a := a) (b := b) (c := c) h)
      have BK := Lib.hid (fun h => key_back (a := d) (b := e) (c := f) (d := g) h)
      obtain ⟨c0, c1, c2, c3, c4, c5, c6⟩ := HN.out.cells
      have hz1 := HN.out.lt
      obtain ⟨g1, g2, g3, g4, hgs⟩ := gavV_shape (parseG (pcs (a ++ ⟨#[58]⟩ ++ b ++ ⟨#[58]⟩ ++ c)))
      obtain ⟨k1, k2, k3, k4, k5, hks⟩ := keyV_shape (parseK (pcs (printK d e f g)))
      rw [hgs] at BG
      rw [hks] at BK
      rw [hgs] at XG
      rw [hks] at XK
      clear hsz hgs hks hd he hf hg
      generalize printK d e f g = pk at PK PKr XK
      have hup := fun {j b : Nat} {v : Value} (hb : b < w1.heap.size) (h : w1.cell? ⟨b, j, none⟩ = some v) dd os => ((below_regrown w1 dd os).cell (p := ⟨b, j, none⟩) hb).trans h
      have q0 := hup (by omega) c0
      have q1 := hup (by omega) c1
      have q2 := hup (by omega) c2
      have q3 := hup (by omega) c3
      have q4 := hup (by omega) c4
      have q5 := hup (by omega) c5
      have q6 := hup (by omega) c6
      clear hup
      have one : (⟨#[58]⟩ : ByteArray).size = 1 := rfl
      have x1 := fun w => run_string_add_sum (P := Tryd.prog) (w := w) a ⟨#[58]⟩ (by rw [one]; omega)
      have x2 := fun w => run_string_add_sum (P := Tryd.prog) (w := w) (a ++ ⟨#[58]⟩) b (by rw [ByteArray.size_append, one]; omega)
      have x3 := fun w => run_string_add_sum (P := Tryd.prog) (w := w) (a ++ ⟨#[58]⟩ ++ b) ⟨#[58]⟩ (by rw [ByteArray.size_append, ByteArray.size_append, one]; omega)
      have x4 := fun w => run_string_add_sum (P := Tryd.prog) (w := w) (a ++ ⟨#[58]⟩ ++ b ++ ⟨#[58]⟩) c (by rw [ByteArray.size_append, ByteArray.size_append, ByteArray.size_append, one]; omega)
      clear one
      go_upto_region 7 with (fail)
      refine wp_region_quiet_below (by kernel_rfl) (by kernel_rfl) ?_
      repeat (quiet_step (first
          | (go_at_call 36; with_reducible exact Calls.regrown_of (PG.out _))
          | (go_at_call 37; with_reducible exact Calls.regrown_of (PK.out _))
          | (go_at_call 38; with_reducible exact Calls.regrown_of (PKr.out _))))
      refine wpQuiet_nil ?_
      intro _ hw'
      obtain ⟨⟨dq, osq⟩, hw''⟩ := hw'
      subst hw''
      have HN2 := Lib.hid (HN.out.up (below_regrown w1 dq osq))
      clear x1 x2 x3 x4 ha hb hc q0 q1 q2 q3 q4 q5 q6 c0 c1 c2 c3 c4 c5 c6 hz1 HG HL HN HW1
      generalize grow (redrawn w1 dq) osq = w2 at HN2
      have HL := Lib.hid (fun w (hm : SevAt m W a b c d e f g w) => (lives_any m w hm.max).mono (R' := fun x w' => x = .returned (.bool true) ∧ SevAt m W a b c d e f g w') (fun _ _ h => ⟨h.1, hm.up h.2⟩))
      obtain ⟨c0, c1, c2, c3, c4, c5, c6⟩ := HN2.out.cells
      have hg : mayG a b c = true → (a = g1 ∧ b = g2 ∧ c = g3 ∧ g4 = 0) := fun h => by
        have := BG.out h
        simp only [Value.tuple.injEq, Array.mk.injEq, List.cons.injEq, Value.agg.injEq, Value.string.injEq, Value.int.injEq, true_and, and_true] at this
        obtain ⟨⟨r1, r2, r3⟩, r4⟩ := this
        exact ⟨r1.symm, r2.symm, r3.symm, r4⟩
      have hk : mayK d e f g = true → (d = k1 ∧ e = k2 ∧ f = k3 ∧ g = k4 ∧ k5 = 0) := fun h => by
        have := BK.out h
        simp only [Value.tuple.injEq, Array.mk.injEq, List.cons.injEq, Value.agg.injEq, Value.string.injEq, Value.int.injEq, true_and, and_true] at this
        obtain ⟨⟨r1, r2, r3, r4⟩, r5⟩ := this
        exact ⟨r1.symm, r2.symm, r3.symm, r4.symm, r5⟩
      have HM2 := Lib.hid HN2.out.max
      have HB2 := Lib.hid HN2.out.below
      have hz2 := HN2.out.lt
      have x2 : W.heap.size < w2.heap.size := by omega
      have HL := Lib.hid (fun w (hm : MaxAt m w) => lives_any m w hm)
      generalize mayG a b c = xg at MG hg
      generalize mayK d e f g = xk at MK hk
      clear HN2 BG BK Hall
      have hg2 : (xg = true ∧ a = g1 ∧ b = g2 ∧ c = g3 ∧ g4 = 0) ∨ xg = false := by
        cases xg with
        | false => exact .inr rfl
        | true => exact .inl ⟨rfl, hg rfl⟩
      have hk2 : (xk = true ∧ d = k1 ∧ e = k2 ∧ f = k3 ∧ g = k4 ∧ k5 = 0) ∨ xk = false := by
        cases xk with
        | false => exact .inr rfl
        | true => exact .inl ⟨rfl, hk rfl⟩
      clear hg hk
      rcases hg2 with ⟨rfl, rfl, rfl, rfl, rfl⟩ | rfl
      all_goals
        rcases hk2 with ⟨rfl, rfl, rfl, rfl, rfl, rfl⟩ | rfl
        all_goals
          go_wp2_with fail
          refine (PG.out _).mono ?_
          rintro e3 w3 ⟨rfl, hb⟩
          obtain ⟨hc3, -⟩ := bcell hb
          have HM3 := Lib.hid (HM2.out.up hb)
          have HB3 := Lib.hid (HB2.out.trans (hb.mono HB2.out.size))
          have hz3 := hb.size
          have y3 : W.heap.size + 1 < w3.heap.size := by omega
          have x3 : W.heap.size < w3.heap.size := by omega
          clear hb
          go_wp2_with fail
          refine (XG.out _ HM3.out).mono ?_
          rintro e4 w4 ⟨rfl, hb⟩
          obtain ⟨hc4, -⟩ := bcell hb
          have HM4 := Lib.hid (fun o => (HM3.out.up hb).up (below_alloc w4 o))
          have HB4 := Lib.hid (fun o => (HB3.out.trans (hb.mono HB3.out.size)).alloc (Nat.le_trans HB3.out.size hb.size) o)
          have hz4 := hb.size
          have y4 : W.heap.size + 1 < w4.heap.size := by omega
          have x4 : W.heap.size < w4.heap.size := by omega
          clear hb
          go_wp2_with fail
          refine (PK.out _).mono ?_
          rintro e5 w5 ⟨rfl, hb⟩
          obtain ⟨hc5, -⟩ := bcell hb
          have HM5 := Lib.hid ((HM4.out _).up hb)
          have HB5 := Lib.hid ((HB4.out _).trans (hb.mono (HB4.out _).size))
          have hz5 : w4.heap.size + 1 ≤ w5.heap.size := by simpa using hb.size
          have y5 : W.heap.size + 1 < w5.heap.size := by omega
          have x5 : W.heap.size < w5.heap.size := by omega
          have n5 : w4.heap.size < w5.heap.size := by omega
          clear hb
          go_wp2_with fail
          refine (XK.out _ HM5.out).mono ?_
          rintro e6 w6 ⟨rfl, hb⟩
          obtain ⟨hc6, -⟩ := bcell hb
          have HM6 := Lib.hid (fun o => (HM5.out.up hb).up (below_alloc w6 o))
          have HB6 := Lib.hid (fun o => (HB5.out.trans (hb.mono HB5.out.size)).alloc (Nat.le_trans HB5.out.size hb.size) o)
          have hz6 := hb.size
          have y6 : W.heap.size + 1 < w6.heap.size := by omega
          have x6 : W.heap.size < w6.heap.size := by omega
          have n6 : w4.heap.size < w6.heap.size := by omega
          clear hb
          go_wp2_with fail
          refine (MG.out _).mono ?_
          rintro e7 w7 ⟨rfl, hb⟩
          obtain ⟨hc7, -⟩ := bcell hb
          have HM7 := Lib.hid ((HM6.out _).up hb)
          have HB7 := Lib.hid ((HB6.out _).trans (hb.mono (HB6.out _).size))
          have hz7 : w6.heap.size + 1 ≤ w7.heap.size := by simpa using hb.size
          have y7 : W.heap.size + 1 < w7.heap.size := by omega
          have x7 : W.heap.size < w7.heap.size := by omega
          have n7 : w4.heap.size < w7.heap.size := by omega
          have p7 : w6.heap.size < w7.heap.size := by omega
          clear hb
          go_wp2_with fail
          refine (MK.out _).mono ?_
          rintro e8 w8 ⟨rfl, hb⟩
          obtain ⟨hc8, -⟩ := bcell hb
          have HM8 := Lib.hid (HM7.out.up hb)
          have HB8 := Lib.hid (HB7.out.trans (hb.mono HB7.out.size))
          have hz8 := hb.size
          have y8 : W.heap.size + 1 < w8.heap.size := by omega
          have x8 : W.heap.size < w8.heap.size := by omega
          have n8 : w4.heap.size < w8.heap.size := by omega
          have p8 : w6.heap.size < w8.heap.size := by omega
          clear hb
          go_wp2_with fail
          refine (HL.out _ HM8.out).mono ?_
          rintro e9 w9 ⟨rfl, hb⟩
          have HB9 := Lib.hid (HB8.out.trans (hb.mono HB8.out.size))
          clear hb
          go_wp2
          go_ret
          exact ⟨rfl, HB9.out⟩
end Go.Proofs.YtldhgdoeehnbjaaDoor
