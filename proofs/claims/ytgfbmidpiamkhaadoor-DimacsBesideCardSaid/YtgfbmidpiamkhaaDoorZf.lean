/- The library's strings.Builder at this program: the shelf's contracts, laid; what others they keep. / The library's strings.Builder: WriteByte, and what others it keeps. / dimacs.line, PrintProof: numbers and an ending nought, as a line. / .. -/
import Derived.Shelf.Strings.BuilderK
import Derived.Deep.RegionHeld
import Derived.Lib.QuietBelow
import Derived.Test.YtgfbmidpiamkhaaDoorZa
import Derived.Test.YtgfbmidpiamkhaaDoorZe
namespace Go.Proofs.YtgfbmidpiamkhaaDoor
open Go.Shelf Go.RowKit
def layW_ren : Go.Shelf.Ren := ⟨fun | 166 => 43 | 240 => 54 | 276 => 62 | n => n, fun | 0 => 0 | 3 => 3 | 4 => 4 | 5 => 5 | 9 => 9 | 20 => 20 | 37 => 80 | 70 => 79 | 72 => 82 | 75 => 88 | 80 => 84 | 164 => 108 | n => n, fun | n => n⟩
theorem layW : Go.Proofs.Lays.n166 Tryd.prog layW_ren := {
  mixed := by kernel_rfl
  f166 := Tryd.func43.trans (congrArg some (by kernel_rfl))
  f240 := Tryd.func54.trans (congrArg some (by kernel_rfl))
  f276 := Tryd.func62.trans (congrArg some (by kernel_rfl))
  t0 := Tryd.underlying0
  a0 := Tryd.isAgg0
  z0 := Tryd.sizeOf0
  v0 := Tryd.zeroValue0
  t3 := Tryd.underlying3
  a3 := Tryd.isAgg3
  z3 := Tryd.sizeOf3
  v3 := Tryd.zeroValue3
  t4 := Tryd.underlying4
  a4 := Tryd.isAgg4
  z4 := Tryd.sizeOf4
  v4 := Tryd.zeroValue4
  t9 := Tryd.underlying9
  a9 := Tryd.isAgg9
  z9 := Tryd.sizeOf9
  v9 := Tryd.zeroValue9
  t20 := Tryd.underlying20
  a20 := Tryd.isAgg20
  z20 := Tryd.sizeOf20
  v20 := Tryd.zeroValue20
  t37 := Tryd.underlying80
  a37 := Tryd.isAgg80
  z37 := Tryd.sizeOf80
  v37 := Tryd.zeroValue80
  t70 := Tryd.underlying79
  a70 := Tryd.isAgg79
  z70 := Tryd.sizeOf79
  v70 := Tryd.zeroValue79
  t72 := Tryd.underlying82
  a72 := Tryd.isAgg82
  z72 := Tryd.sizeOf82
  v72 := Tryd.zeroValue82
  t75 := Tryd.underlying88
  a75 := Tryd.isAgg88
  z75 := Tryd.sizeOf88
  v75 := Tryd.zeroValue88
  t164 := Tryd.underlying108
  a164 := Tryd.isAgg108
  z164 := Tryd.sizeOf108
  v164 := Tryd.zeroValue108 }
theorem layW_x : Builder.Extra Tryd.prog layW_ren := {
  sizeBuilder := by kernel_rfl
  liesBuilder := by kernel_rfl
  t5 := Tryd.underlying5
  a5 := Tryd.isAgg5
  z5 := Tryd.sizeOf5
  v5 := Tryd.zeroValue5
  infoByte := by kernel_rfl
  cellsByte := by kernel_rfl
  sizeByte := by kernel_rfl
  neB5 := of_decide_eq_true (by kernel_rfl) }
def layS_ren : Go.Shelf.Ren := ⟨fun | 169 => 38 | n => n, fun | 0 => 0 | 3 => 3 | 5 => 5 | 9 => 9 | 37 => 80 | 70 => 79 | 72 => 82 | 127 => 104 | n => n, fun | n => n⟩
theorem layS : Go.Proofs.Lays.n169 Tryd.prog layS_ren := {
  mixed := by kernel_rfl
  f169 := Tryd.func38.trans (congrArg some (by kernel_rfl))
  t0 := Tryd.underlying0
  a0 := Tryd.isAgg0
  z0 := Tryd.sizeOf0
  v0 := Tryd.zeroValue0
  t3 := Tryd.underlying3
  a3 := Tryd.isAgg3
  z3 := Tryd.sizeOf3
  v3 := Tryd.zeroValue3
  t9 := Tryd.underlying9
  a9 := Tryd.isAgg9
  z9 := Tryd.sizeOf9
  v9 := Tryd.zeroValue9
  t37 := Tryd.underlying80
  a37 := Tryd.isAgg80
  z37 := Tryd.sizeOf80
  v37 := Tryd.zeroValue80
  t70 := Tryd.underlying79
  a70 := Tryd.isAgg79
  z70 := Tryd.sizeOf79
  v70 := Tryd.zeroValue79
  t72 := Tryd.underlying82
  a72 := Tryd.isAgg82
  z72 := Tryd.sizeOf82
  v72 := Tryd.zeroValue82
  t127 := Tryd.underlying104
  a127 := Tryd.isAgg104
  z127 := Tryd.sizeOf104
  v127 := Tryd.zeroValue104 }
theorem layS_x : Builder.Extra Tryd.prog layS_ren := {
  sizeBuilder := by kernel_rfl
  liesBuilder := by kernel_rfl
  t5 := Tryd.underlying5
  a5 := Tryd.isAgg5
  z5 := Tryd.sizeOf5
  v5 := Tryd.zeroValue5
  infoByte := by kernel_rfl
  cellsByte := by kernel_rfl
  sizeByte := by kernel_rfl
  neB5 := of_decide_eq_true (by kernel_rfl) }
abbrev BldF := Lib.IsBuilderF 82 5
abbrev Others := Lib.OthersKept 5
theorem WriteString_k (B b : Nat) (bs : List Value) (s : ByteArray) (w : World) (h : BldF B b bs w) (hlen : bs.length + s.size ≤ 140737488355328) (hBw : B ≤ w.heap.size) :
    Calls Tryd.prog 43 #[.pointer (some ⟨b, 0, none⟩), .string s] w fun e w' => e = .returned (.tuple #[.int .i64 s.size, .nilIface]) ∧ (BldF B b (bs ++ Lib.strCells s) w' ∧ Below B w w' ∧ Others (some b) w w') :=
  (Any.Builder_WriteString_k layW layW_x B b bs s w h hlen hBw).mono fun _ _ ⟨h1, h2, h3, h4⟩ => ⟨h1, .inr h2, h3, h4⟩
theorem String_k (B b : Nat) (l : List UInt8) (w : World) (h : BldF B b (Lib.byteCells l) w) (hBw : B ≤ w.heap.size) :
    Calls Tryd.prog 38 #[.pointer (some ⟨b, 0, none⟩)] w fun e w' => e = .returned (.string ⟨l.toArray⟩) ∧ Below B w w' ∧ Others (some b) w w' :=
  (Any.Builder_String_any_k layS layS_x B b l w h hBw).mono fun _ _ ⟨h1, _, h3, h4⟩ => ⟨h1, h3, h4⟩
end Go.Proofs.YtgfbmidpiamkhaaDoor

namespace Go.Proofs.YtgfbmidpiamkhaaDoor
open Go.Shelf Go.RowKit
def layB_ren : Go.Shelf.Ren := ⟨fun | 167 => 53 | 240 => 54 | 276 => 62 | n => n, fun | 0 => 0 | 4 => 4 | 5 => 5 | 9 => 9 | 20 => 20 | 37 => 80 | 70 => 79 | 72 => 82 | 75 => 88 | 80 => 84 | 164 => 108 | n => n, fun | n => n⟩
theorem layB : Go.Proofs.Lays.n167 Tryd.prog layB_ren := {
  mixed := by kernel_rfl
  f167 := Tryd.func53.trans (congrArg some (by kernel_rfl))
  f240 := Tryd.func54.trans (congrArg some (by kernel_rfl))
  f276 := Tryd.func62.trans (congrArg some (by kernel_rfl))
  t0 := Tryd.underlying0
  a0 := Tryd.isAgg0
  z0 := Tryd.sizeOf0
  v0 := Tryd.zeroValue0
  t4 := Tryd.underlying4
  a4 := Tryd.isAgg4
  z4 := Tryd.sizeOf4
  v4 := Tryd.zeroValue4
  t5 := Tryd.underlying5
  a5 := Tryd.isAgg5
  z5 := Tryd.sizeOf5
  v5 := Tryd.zeroValue5
  t9 := Tryd.underlying9
  a9 := Tryd.isAgg9
  z9 := Tryd.sizeOf9
  v9 := Tryd.zeroValue9
  t20 := Tryd.underlying20
  a20 := Tryd.isAgg20
  z20 := Tryd.sizeOf20
  v20 := Tryd.zeroValue20
  t37 := Tryd.underlying80
  a37 := Tryd.isAgg80
  z37 := Tryd.sizeOf80
  v37 := Tryd.zeroValue80
  t70 := Tryd.underlying79
  a70 := Tryd.isAgg79
  z70 := Tryd.sizeOf79
  v70 := Tryd.zeroValue79
  t72 := Tryd.underlying82
  a72 := Tryd.isAgg82
  z72 := Tryd.sizeOf82
  v72 := Tryd.zeroValue82
  t75 := Tryd.underlying88
  a75 := Tryd.isAgg88
  z75 := Tryd.sizeOf88
  v75 := Tryd.zeroValue88
  t164 := Tryd.underlying108
  a164 := Tryd.isAgg108
  z164 := Tryd.sizeOf108
  v164 := Tryd.zeroValue108 }
theorem layB_x : Builder.Extra Tryd.prog layB_ren := {
  sizeBuilder := by kernel_rfl
  liesBuilder := by kernel_rfl
  t5 := Tryd.underlying5
  a5 := Tryd.isAgg5
  z5 := Tryd.sizeOf5
  v5 := Tryd.zeroValue5
  infoByte := by kernel_rfl
  cellsByte := by kernel_rfl
  sizeByte := by kernel_rfl
  neB5 := of_decide_eq_true (by kernel_rfl) }
theorem WriteByte_k (B b : Nat) (bs : List Value) (c : Int) (w : World) (h : BldF B b bs w) (hlen : bs.length + 1 ≤ 140737488355328) (hBw : B ≤ w.heap.size) :
    Calls Tryd.prog 53 #[.pointer (some ⟨b, 0, none⟩), .int .u8 c] w fun e w' => e = .returned .nilIface ∧ (BldF B b (bs ++ [.int .u8 c]) w' ∧ Below B w w' ∧ Others (some b) w w') :=
  (Any.Builder_WriteByte_k layB layB_x B b bs c w h hlen hBw).mono fun _ _ ⟨h1, h2, h3, h4⟩ => ⟨h1, .inr h2, h3, h4⟩
end Go.Proofs.YtgfbmidpiamkhaaDoor

namespace Go.Proofs.YtgfbmidpiamkhaaDoor
open Go.RowKit
open D28
namespace D28
def litT (n : Int) : Bs := numL n ++ [32]
def lineL (c : List Int) : Bs := c.flatMap litT ++ [48, 10]
def printL (l : List (List Int)) : Bs := l.flatMap lineL
def okN (n : Int) : Prop := -999999999 ≤ n ∧ n ≤ 999999999
end D28
theorem numL_len {x : Int} (h : -9223372036854775808 ≤ x ∧ x ≤ 9223372036854775807) : (numL x).length ≤ 22 := by
  unfold numL
  split
  · have := digL_len (n := (-x).toNat) (by omega); simp; omega
  · have := digL_len (n := x.toNat) (by omega); omega
theorem refNumber_any (x : Int) (w : World) (h : okN x) : Calls Tryd.prog 39 #[.int .i64 x] w fun e w' => e = .returned (sv (numL x)) ∧ Below w.heap.size w w' := by
  obtain ⟨h1, h2⟩ := h
  by_cases hx : x < 0
  · have hn : IntKind.i64.wrap (-x) = (((-x).toNat : Nat) : Int) := by rw [IntKind.wrap_i64]; omega
    obtain ⟨d, hd⟩ : ∃ d, d = (-x).toNat := ⟨_, rfl⟩
    have HD := Lib.hid (fun w => show Calls Tryd.prog 39 #[.int .i64 d] w fun e w' => e = .returned (sv (digL d)) ∧ Below w.heap.size w w' from refNumber_nat d w (by omega))
    have Hr := Lib.hid (show numL x = 45 :: digL d by unfold numL; rw [if_pos hx, hd])
    have hadd := fun (w : World) => add_bz (P := Tryd.prog) (w := w) [45] (digL d) (by have := digL_len (n := d) (by omega); simp; omega)
    rw [← hd] at hn
    have hm : (⟨#[45]⟩ : ByteArray) = bz [45] := rfl
    clear hd
    go_enter Tryd.func39, Tryd.ntmps39
    rw [hm]
    go_wp2_with (go_at_call 39; with_reducible refine (HD.out _).mono ?_; rintro e w1 ⟨rfl, hb⟩; have HB := Lib.hid hb; clear hb)
    go_ret
    rw [Hr.out]
    exact ⟨rfl, HB.out⟩
  · have Hr := Lib.hid (show numL x = digL x.toNat by unfold numL; rw [if_neg hx])
    obtain ⟨d, rfl⟩ : ∃ d : Nat, x = d := ⟨x.toNat, by omega⟩
    refine (refNumber_nat d w (by omega)).mono ?_
    rintro e w' ⟨rfl, hb⟩
    exact ⟨by rw [Hr.out]; rfl, hb⟩
/-! ### the builder -/
theorem bldAt_keep {B b : Nat} {p : Value} {bs : List Value} {w w' : World} (h : Lib.BuilderAtF 82 5 B b p bs w) (hk : ∀ k, k < w.heap.size → w'.heap[k]? = w.heap[k]?) : Lib.BuilderAtF 82 5 B b p bs w' := by
  obtain ⟨hB, v, hb, hown, hne⟩ := h
  refine ⟨hB, v, (hk b (Array.getElem?_eq_some_iff.1 hb).1).trans hb, ?_, hne⟩
  obtain ⟨h1, h2 | ⟨g, cap, cur, fz, hv, hbg, hg, hr⟩⟩ := hown
  · exact ⟨h1, .inl h2⟩
  · exact ⟨h1, .inr ⟨g, cap, cur, fz, hv, hbg, (hk g (Array.getElem?_eq_some_iff.1 hg).1).trans hg, hr⟩⟩
theorem BldF.up {B b : Nat} {bs : List Value} {w w' : World} (h : BldF B b bs w) (hb : Below w.heap.size w w') : BldF B b bs w' :=
  h.elim (fun h => .inl (bldAt_keep h hb.block)) (fun h => .inr (bldAt_keep h hb.block))
theorem BldF.obj {B b : Nat} {bs : List Value} {w : World} (h : BldF B b bs w) : ∃ c, w.heap[b]? = some (.cells c 82 (0, 0)) := by
  rcases h with ⟨_, v, hb, _⟩ | ⟨_, v, hb, _⟩ <;> exact ⟨_, hb⟩
theorem BldF.lo {B b : Nat} {bs : List Value} {w : World} (h : BldF B b bs w) : B ≤ b := by
  rcases h with ⟨h, _⟩ | ⟨h, _⟩ <;> exact h
theorem oth_below {b : Nat} {a w w' : World} (h : Others (some b) a w) (hb : Below w.heap.size w w') : Others (some b) a w' := fun k o hk h1 h2 => by
  have := h k o hk h1 h2
  exact (hb.block k (Array.getElem?_eq_some_iff.1 this).1).trans this
theorem strCells_bz (a : Bs) : Lib.strCells (bz a) = Lib.byteCells a := rfl
/-- what the builder's writers do -/
structure Wr (B b : Nat) (t : Bs) (w w' : World) : Prop where
  bld : BldF B b (Lib.byteCells t) w'
  below : Below B w w'
  oth : Others (some b) w w'
theorem Wr.up {B b : Nat} {t : Bs} {w w1 w2 : World} (h : Wr B b t w w1) (hb : Below w1.heap.size w1 w2) (hB : B ≤ w.heap.size) : Wr B b t w w2 := ⟨h.bld.up hb, h.below.trans (hb.mono (Nat.le_trans hB h.below.size)), oth_below h.oth hb⟩
theorem Wr.drew {B b : Nat} {t : Bs} {w w1 : World} (h : Wr B b t w w1) (hB : B ≤ w.heap.size) : Wr B b t w w1.drew := h.up (Below.refl _ _).drew hB
theorem byteCells_append (a b : Bs) : Lib.byteCells (a ++ b) = Lib.byteCells a ++ Lib.byteCells b := by simp [Lib.byteCells]
theorem Wr.str {B b : Nat} {t s : Bs} {w w1 : World} (h : Wr B b t w w1) (hB : B ≤ w.heap.size) (hl : t.length + s.length ≤ 1000000000) : Calls Tryd.prog 43 #[.pointer (some ⟨b, 0, none⟩), sv s] w1 fun e w' => e = .returned (.tuple #[.int .i64 (bz s).size, .nilIface]) ∧ Wr B b (t ++ s) w w' := by
  refine (WriteString_k B b _ (bz s) w1 h.bld (by rw [Lib.byteCells_length, bz_size]; omega) (Nat.le_trans hB h.below.size)).mono ?_
  rintro e w' ⟨rfl, h1, h2, h3⟩
  exact ⟨rfl, by rw [byteCells_append]; exact h1, h.below.trans h2, Lib.OthersKept.trans h.oth h3⟩
theorem Wr.byte {B b : Nat} {t : Bs} {c : UInt8} {w w1 : World} (h : Wr B b t w w1) (hB : B ≤ w.heap.size) (hl : t.length ≤ 1000000000) : Calls Tryd.prog 53 #[.pointer (some ⟨b, 0, none⟩), .int .u8 c.toNat] w1 fun e w' => e = .returned .nilIface ∧ Wr B b (t ++ [c]) w w' := by
  refine (WriteByte_k B b _ c.toNat w1 h.bld (by rw [Lib.byteCells_length]; omega) (Nat.le_trans hB h.below.size)).mono ?_
  rintro e w' ⟨rfl, h1, h2, h3⟩
  exact ⟨rfl, by rw [byteCells_append]; exact h1, h.below.trans h2, Lib.OthersKept.trans h.oth h3⟩
/-- a row of numbers that the builder's writers leave as it is -/
def Stays (B b : Nat) (w : World) (v : Value) (c : List Int) : Prop := ∀ w', Below B w w' → Others (some b) w w' → ∃ S, RInts w' S v c
theorem lits_len {c : List Int} (h : ∀ n ∈ c, okN n) : (c.flatMap litT).length ≤ 23 * c.length := by
  induction c with
  | nil => simp
  | cons n c ih =>
    have := ih fun m hm => h m (by simp [hm])
    have h2 := h n (by simp)
    have h3 := numL_len (x := n) (by obtain ⟨a, b⟩ := h2; omega)
    simp only [List.flatMap_cons, List.length_append, List.length_cons]
    have : (litT n).length = (numL n).length + 1 := by simp [litT]
    omega
set_option maxRecDepth 100000 in
set_option maxHeartbeats 4000000 in
theorem line_any (B b : Nat) (t head : Bs) (v : Value) (c : List Int) (w : World) (hb : BldF B b (Lib.byteCells t) w) (hB : B ≤ w.heap.size) (hv : Stays B b w v c) (hn : ∀ n ∈ c, okN n) (hc : c.length ≤ 1000) (ht : t.length ≤ 10000000) (hh : head.length ≤ 1000) :
    Calls Tryd.prog 37 #[.pointer (some ⟨b, 0, none⟩), sv head, v] w fun e w' => e = .returned (.tuple #[]) ∧ Wr B b (t ++ head ++ lineL c) w w' := by
  obtain ⟨S0, hv0⟩ := hv w (Below.refl _ _) (Lib.OthersKept.refl _ _ _)
  obtain ⟨A, cv, rfl, hm, -⟩ := hv0.open_
  have HB := Lib.hid hB
  have Hv := Lib.hid hv
  have H0 := Lib.hid (Wr.str (s := head) (⟨hb, Below.refl _ _, Lib.OthersKept.refl _ _ _⟩ : Wr B b t w w) hB (by omega))
  have hl := lits_len hn
  clear hv hv0 hb hB
  go_enter Tryd.func37, Tryd.ntmps37
  go_wp2_with (go_at_call 43; refine H0.out.mono ?_; rintro e w1 ⟨rfl, h1⟩; have H1 := Lib.hid h1; clear h1)
  go_loopw [13] (fun iv wr => ∃ k : Nat, k ≤ c.length ∧ iv = .int .i64 k ∧ Hid (Wr B b (t ++ head ++ (c.take k).flatMap litT) w wr)) (fun iv _ => c.length - (intOf iv).toNat)
  case atStart => exact ⟨0, Nat.zero_le _, rfl, by simpa using H1⟩
  case round =>
    obtain ⟨k, hk, rfl, HW⟩ := hrel
    have htl : (t ++ head ++ (c.take k).flatMap litT).length ≤ 20000000 := by
      have := lits_len (c := c.take k) fun n hn' => hn n (List.mem_of_mem_take hn')
      simp only [List.length_append, List.length_take] at this ⊢
      omega
    by_cases hlt : k < c.length
    · obtain ⟨S, hS⟩ := Hv.out _ HW.out.below HW.out.oth
      obtain ⟨A', c', e', -, hat⟩ := hS.open_
      cases e'
      obtain ⟨g, off, u, rfl, hg, hcell, hu⟩ := hat.at_ RInt.stable (Ag.refl _ _) hlt
      obtain rfl := hu
      have hnk := hn _ (List.getElem_mem hlt)
      have Hs := Lib.hid (show (c.take (k + 1)).flatMap litT = (c.take k).flatMap litT ++ (numL c[k] ++ [32]) by rw [List.take_succ_eq_append_getElem hlt, List.flatMap_append]; simp [litT])
      obtain ⟨n, hne⟩ : ∃ n, n = c[k] := ⟨_, rfl⟩
      rw [← hne] at hcell hnk Hs
      have hn22 := numL_len (x := n) (by obtain ⟨a, b⟩ := hnk; omega)
      have HN := Lib.hid (fun w => number_any n w (by obtain ⟨a, b⟩ := hnk; omega))
      have HS := Lib.hid (fun (w1 : World) (h : Wr B b (t ++ head ++ (c.take k).flatMap litT) w w1) => h.str (s := numL n) HB.out (by omega))
      have HY := Lib.hid (fun (w1 : World) (h : Wr B b (t ++ head ++ (c.take k).flatMap litT ++ numL n) w w1) => h.byte (c := 32) HB.out (by rw [List.length_append]; omega))
      clear hne hS hat
      go_wp2_with (first
        | (go_at_call 24; refine (HN.out _).mono ?_; rintro e w2 ⟨rfl, hb2⟩; have H2 := Lib.hid (HW.out.up hb2 HB.out); clear hb2)
        | (go_at_call 43; refine (HS.out _ H2.out).mono ?_; rintro e w3 ⟨rfl, h3⟩; have H3 := Lib.hid h3; clear h3)
        | (go_at_call 53; refine (HY.out _ H3.out).mono ?_; rintro e w4 ⟨rfl, h4⟩; have H4 := Lib.hid h4; clear h4))
      go_roundw
      case rel => exact ⟨k + 1, by omega, by go_num, Lib.hid (by rw [Hs.out]; simpa using H4.out)⟩
      case measure => simp [intOf]; omega
    · obtain rfl : k = c.length := by omega
      have HE := Lib.hid (Wr.str (s := [48, 10]) HW.out HB.out (by simp at htl ⊢; omega))
      have hz : (⟨#[48, 10]⟩ : ByteArray) = bz [48, 10] := rfl
      rw [List.take_length] at HE
      clear htl hlt
      go_wp2_with (go_at_call 43; refine HE.out.mono ?_; rintro e w2 ⟨rfl, h2⟩; have H2 := Lib.hid h2; clear h2)
      go_end0
      exact ⟨rfl, by have := H2.out; simpa [lineL] using this⟩
end Go.Proofs.YtgfbmidpiamkhaaDoor

namespace Go.Proofs.YtgfbmidpiamkhaaDoor
open Go.RowKit
open D28
namespace D28
/-- clauses of which the laws speak -/
def LightL (l : List (List Int)) : Prop := l.length ≤ 60 ∧ ∀ c ∈ l, c.length ≤ 30 ∧ ∀ n ∈ c, okN n ∧ n ≠ 0
end D28
theorem D28.LightL.ok {l : List (List Int)} (h : LightL l) {k : Nat} (hk : k < l.length) : l[k].length ≤ 30 ∧ ∀ n ∈ l[k], okN n := ⟨(h.2 _ (List.getElem_mem hk)).1, fun n hn => ((h.2 _ (List.getElem_mem hk)).2 n hn).1⟩
theorem lineL_len {c : List Int} (h : ∀ n ∈ c, okN n) : (lineL c).length ≤ 23 * c.length + 2 := by
  have := lits_len h
  unfold lineL
  simp only [List.length_append, List.length_cons, List.length_nil]; omega
theorem printL_len {l : List (List Int)} (h : ∀ c ∈ l, c.length ≤ 30 ∧ ∀ n ∈ c, okN n) : (printL l).length ≤ 700 * l.length := by
  unfold printL
  induction l with
  | nil => simp
  | cons c l ih =>
    have h1 := ih fun x hx => h x (by simp [hx])
    have h2 := lineL_len (h c (by simp)).2
    have h3 := (h c (by simp)).1
    simp only [List.flatMap_cons, List.length_append, List.length_cons]
    omega
theorem D28.LightL.pre {l : List (List Int)} (h : LightL l) (k : Nat) : (printL (l.take k)).length ≤ 42000 := by
  have h1 := printL_len (l := l.take k) fun c hc => ⟨(h.2 c (List.mem_of_mem_take hc)).1, fun n hn => ((h.2 c (List.mem_of_mem_take hc)).2 n hn).1⟩
  have h2 := h.1
  rw [List.length_take] at h1
  have : 700 * min k l.length ≤ 700 * 60 := Nat.mul_le_mul_left _ (by omega)
  omega
theorem bld_new (w : World) : BldF w.heap.size w.heap.size (Lib.byteCells []) (w.alloc (.cells #[.pointer none, .slice none 0 0] 82)) :=
  .inl (Lib.BuilderAtF.of ⟨Nat.le_refl _, .slice none 0 0, heap_alloc_new _ _, World.ownsRow_nil _ _ _ _, by simp [Value.ownBlock]⟩)
theorem Wr.string {B b : Nat} {t : Bs} {w w1 : World} (h : Wr B b t w w1) (hB : B ≤ w.heap.size) : Calls Tryd.prog 38 #[.pointer (some ⟨b, 0, none⟩)] w1 fun e w' => e = .returned (sv t) ∧ Below B w w' := by
  refine (String_k B b t w1 h.bld (Nat.le_trans hB h.below.size)).mono ?_
  rintro e w' ⟨rfl, h2, -⟩
  exact ⟨rfl, h.below.trans h2⟩
set_option maxRecDepth 100000 in
set_option maxHeartbeats 4000000 in
theorem PrintProof_any (v : Value) (l : List (List Int)) (w : World) (hv : RIntss w (Lt w.heap.size) v l) (hl : LightL l) : Calls Tryd.prog 17 #[v] w fun e w' => e = .returned (sv (printL l)) ∧ Below w.heap.size w w' := by
  obtain ⟨A, cv, rfl, hm, hat⟩ := hv.open_
  have Hat := Lib.hid hat
  have hl60 := hl.1
  have H0 := Lib.hid (⟨bld_new w, Below.refl _ _, Lib.OthersKept.refl _ _ _⟩ : Wr w.heap.size w.heap.size [] (w.alloc (.cells #[.pointer none, .slice none 0 0] 82)) (w.alloc (.cells #[.pointer none, .slice none 0 0] 82)))
  have HA := Lib.hid (below_alloc w (.cells #[.pointer none, .slice none 0 0] 82))
  obtain ⟨w0, hw0⟩ : ∃ w0, w0 = w.alloc (.cells #[.pointer none, .slice none 0 0] 82) := ⟨_, rfl⟩
  rw [← hw0] at H0 HA
  have HBz := Lib.hid (HA.out.size)
  have HW0 := Lib.hid hw0
  clear hw0 hv hat
  have hz : (⟨#[]⟩ : ByteArray) = bz [] := rfl
  go_enter Tryd.func17, Tryd.ntmps17
  rw [hz]
  go_wp2
  rw [← HW0.out]
  go_loopw [8] (fun iv wr => ∃ k : Nat, k ≤ l.length ∧ iv = .int .i64 k ∧ Hid (Wr w.heap.size w.heap.size (printL (l.take k)) w0 wr)) (fun iv _ => l.length - (intOf iv).toNat)
  case atStart => exact ⟨0, Nat.zero_le _, rfl, by simpa [printL] using H0⟩
  case round =>
    obtain ⟨k, hk, rfl, HW⟩ := hrel
    have hpre := hl.pre k
    by_cases hlt : k < l.length
    · have hwb := HA.out.trans HW.out.below
      obtain ⟨g, off, u, rfl, hg, hcell, hu⟩ := Hat.out.at_ RInts.stable (ag_of_below hwb) hlt
      obtain ⟨h30, hok⟩ := hl.ok hlt
      have Hs := Lib.hid (show printL (l.take (k + 1)) = printL (l.take k) ++ lineL l[k] by unfold printL; rw [List.take_succ_eq_append_getElem hlt, List.flatMap_append]; simp)
      have HL := Lib.hid (line_any w.heap.size w.heap.size (printL (l.take k)) [] u l[k] wr HW.out.bld (Nat.le_trans HBz.out HW.out.below.size) (fun w' hb _ => ⟨_, RInts.stable.below hu hb⟩) hok (by omega) (by omega) (by simp))
      obtain ⟨A2, c2, rfl, -, -⟩ := hu.open_
      clear hu hwb hpre
      go_wp2_with (go_at_call 37; refine HL.out.mono ?_; rintro e w2 ⟨rfl, h2⟩; have H2 := Lib.hid h2; clear h2)
      go_roundw
      case rel => exact ⟨k + 1, by omega, by go_num, Lib.hid ⟨by rw [Hs.out]; simpa using H2.out.bld, HW.out.below.trans H2.out.below, Lib.OthersKept.trans HW.out.oth H2.out.oth⟩⟩
      case measure => simp [intOf]; omega
    · obtain rfl : k = l.length := by omega
      have HS := Lib.hid (HW.out.string HBz.out)
      rw [List.take_length] at HS
      clear hlt hk hpre
      go_wp2_with (go_at_call 38; refine HS.out.mono ?_; rintro e w2 ⟨rfl, h2⟩; have H2 := Lib.hid h2; clear h2)
      go_ret
      exact ⟨rfl, HA.out.trans H2.out⟩
set_option maxRecDepth 100000 in
set_option maxHeartbeats 4000000 in
theorem refPrintProof_any (v : Value) (l : List (List Int)) (w : World) (hv : RIntss w (Lt w.heap.size) v l) (hl : LightL l) : Calls Tryd.prog 18 #[v] w fun e w' => e = .returned (sv (printL l)) ∧ Below w.heap.size w w' := by
  obtain ⟨A, cv, rfl, hm, hat⟩ := hv.open_
  have Hat := Lib.hid hat
  have hl60 := hl.1
  have hz : (⟨#[]⟩ : ByteArray) = bz [] := rfl
  have hz1 : (⟨#[32]⟩ : ByteArray) = bz [32] := rfl
  have hz2 : (⟨#[48, 10]⟩ : ByteArray) = bz [48, 10] := rfl
  clear hv hat
  go_enter Tryd.func18, Tryd.ntmps18
  rw [hz, hz1, hz2]
  go_wp2
  go_loopw [10, 3] (fun iv sv' wr => ∃ k : Nat, k ≤ l.length ∧ iv = .int .i64 k ∧ sv' = sv (printL (l.take k)) ∧ Hid (Below w.heap.size w wr)) (fun iv _ _ => l.length - (intOf iv).toNat)
  case atStart => exact ⟨0, Nat.zero_le _, rfl, rfl, Lib.hid (Below.refl _ _)⟩
  case round =>
    obtain ⟨k, hk, rfl, rfl, HW⟩ := hrel
    have hpre := hl.pre k
    by_cases hlt : k < l.length
    · obtain ⟨g, off, u, rfl, hg, hcell, hu⟩ := Hat.out.at_ RInts.stable (ag_of_below HW.out) hlt
      obtain ⟨h30, hok⟩ := hl.ok hlt
      have Hs := Lib.hid (show printL (l.take (k + 1)) = printL (l.take k) ++ lineL l[k] by unfold printL; rw [List.take_succ_eq_append_getElem hlt, List.flatMap_append]; simp)
      obtain ⟨T, hT⟩ : ∃ T, T = printL (l.take k) := ⟨_, rfl⟩
      rw [← hT] at hpre Hs ⊢
      obtain ⟨c, hc⟩ : ∃ c, c = l[k] := ⟨_, rfl⟩
      rw [← hc] at hu h30 hok Hs
      obtain ⟨A2, c2, rfl, hm2, hat2⟩ := hu.open_
      have Hat2 := Lib.hid hat2
      have Hu := Lib.hid hu
      clear hT hc hat2 hu
      go_wp2
      go_loopw [16, 3] (fun jv sv' w2 => ∃ j : Nat, j ≤ c.length ∧ jv = .int .i64 j ∧ sv' = sv (T ++ (c.take j).flatMap litT) ∧ Hid (Below wr.heap.size wr w2)) (fun jv _ _ => c.length - (intOf jv).toNat)
      case atStart => exact ⟨0, Nat.zero_le _, rfl, by simp, Lib.hid (Below.refl _ _)⟩
      case round =>
        rename_i wq
        obtain ⟨j, hj, rfl, rfl, HQ⟩ := hrel
        have hacc : (T ++ (c.take j).flatMap litT).length ≤ 50000 := by
          have := lits_len (c := c.take j) fun n hn' => hok n (List.mem_of_mem_take hn')
          simp only [List.length_append, List.length_take] at this ⊢
          omega
        by_cases hjlt : j < c.length
        · obtain ⟨g2, off2, u2, rfl, hg2, hcell2, hu2⟩ := Hat2.out.at_ RInt.stable (ag_of_below (HQ.out.mono HW.out.size)) hjlt
          obtain rfl := hu2
          have hnk := hok _ (List.getElem_mem hjlt)
          have Hs2 := Lib.hid (show T ++ (c.take (j + 1)).flatMap litT = (T ++ (c.take j).flatMap litT) ++ (numL c[j] ++ [32]) by rw [List.take_succ_eq_append_getElem hjlt, List.flatMap_append]; simp [litT])
          obtain ⟨n, hne⟩ : ∃ n, n = c[j] := ⟨_, rfl⟩
          rw [← hne] at hcell2 hnk Hs2
          have hn22 := numL_len (x := n) (by obtain ⟨a, b⟩ := hnk; omega)
          have HN := Lib.hid (fun w => refNumber_any n w hnk)
          obtain ⟨X, hX⟩ : ∃ X, X = T ++ (c.take j).flatMap litT := ⟨_, rfl⟩
          rw [← hX] at hacc Hs2 ⊢
          have a1 := fun (w : World) => add_bz (P := Tryd.prog) (w := w) (numL n) [32] (by simp; omega)
          have a2 := fun (w : World) => add_bz (P := Tryd.prog) (w := w) X (numL n ++ [32]) (by simp; omega)
          clear hne hX
          go_wp2_with (go_at_call 39; refine (HN.out _).mono ?_; rintro e w3 ⟨rfl, hb3⟩; have H3 := Lib.hid (HQ.out.trans (hb3.mono HQ.out.size)); clear hb3)
          go_roundw
          case rel => exact ⟨j + 1, by omega, by go_num, by rw [Hs2.out], H3⟩
          case measure => simp [intOf]; omega
        · obtain rfl : j = c.length := by omega
          have HB2 := Lib.hid (HW.out.trans (HQ.out.mono HW.out.size))
          rw [List.take_length] at hacc ⊢
          have Hs2 := Lib.hid (show (T ++ c.flatMap litT) ++ [48, 10] = printL (l.take (k + 1)) by rw [Hs.out]; simp [lineL])
          obtain ⟨X, hX⟩ : ∃ X, X = T ++ c.flatMap litT := ⟨_, rfl⟩
          rw [← hX] at hacc Hs2 ⊢
          have a2 := fun (w : World) => add_bz (P := Tryd.prog) (w := w) X [48, 10] (by simp; omega)
          clear hX hjlt hj
          go_wp2
          go_roundw
          case rel => exact ⟨k + 1, by omega, by go_num, by rw [Hs2.out], HB2⟩
          case measure => simp [intOf]; omega
    · obtain rfl : k = l.length := by omega
      rw [List.take_length]
      clear hlt hk hpre
      go_wp2
      go_ret
      exact ⟨rfl, HW.out⟩
end Go.Proofs.YtgfbmidpiamkhaaDoor

namespace Go.Proofs.YtgfbmidpiamkhaaDoor
open Go.RowKit
open D28 Go.Sort
namespace D28
/-- `p cnf ` -/
def pcnf : Bs := [112, 32, 99, 110, 102, 32]
def printQ (vars : Int) (l : List (List Int)) : Bs := pcnf ++ numL vars ++ [32] ++ numL l.length ++ [10] ++ printL l
end D28
set_option maxRecDepth 100000 in
set_option maxHeartbeats 4000000 in
theorem Print_any (vars : Int) (v : Value) (l : List (List Int)) (w : World) (hv : RIntss w (Lt w.heap.size) v l) (hl : LightL l) (hr : -9223372036854775808 ≤ vars ∧ vars ≤ 9223372036854775807) : Calls Tryd.prog 10 #[.agg #[.int .i64 vars, v]] w fun e w' => e = .returned (sv (printQ vars l)) ∧ Below w.heap.size w w' := by
  obtain ⟨w1, hw1⟩ : ∃ w1, w1 = w.alloc (.cells #[.int .i64 vars, v] 24) := ⟨_, rfl⟩
  have hb1 : Below w.heap.size w w1 := by rw [hw1]; exact below_alloc _ _
  have hz1 : w.heap.size < w1.heap.size := by rw [hw1]; simp
  have c0 : w1.cell? ⟨w.heap.size, 0, none⟩ = some (.int .i64 vars) := by rw [hw1]; exact box_cell (Below.refl _ _) 0
  have c1 : w1.cell? ⟨w.heap.size, 1, none⟩ = some v := by rw [hw1]; exact box_cell (Below.refl _ _) 1
  obtain ⟨A, cv, rfl, hm, -⟩ := hv.open_
  have hl60 := hl.1
  have HV := Lib.hid (fun d os => number_any vars (grow (redrawn w1 d) os) hr)
  have HN := Lib.hid (fun d os => number_any (l.length : Int) (grow (redrawn w1 d) os) (by omega))
  have HP := Lib.hid (fun d os => PrintProof_any (.slice A l.length cv) l (grow (redrawn w1 d) os) (RIntss.stable _ _ _ _ _ _ hv (fun b hb => ((hb1.trans ((below_regrown w1 d os).mono hb1.size)).block b hb)) fun b hb => Nat.lt_of_lt_of_le hb (Nat.le_trans hb1.size (below_regrown w1 d os).size)) hl)
  have hlv := numL_len hr
  have hln := numL_len (x := (l.length : Int)) (by omega)
  have hlp := hl.pre l.length
  rw [List.take_length] at hlp
  have hres := Lib.hid (show printQ vars l = pcnf ++ numL vars ++ [32] ++ numL l.length ++ [10] ++ printL l from rfl)
  obtain ⟨a, ha⟩ : ∃ a, a = numL vars := ⟨_, rfl⟩
  obtain ⟨b, hb⟩ : ∃ b, b = numL (l.length : Int) := ⟨_, rfl⟩
  obtain ⟨p, hp⟩ : ∃ p, p = printL l := ⟨_, rfl⟩
  rw [← ha] at HV hlv hres
  rw [← hb] at HN hln hres
  rw [← hp] at HP hlp hres
  have hup := fun {j b : Nat} {v : Value} (hb : b < w1.heap.size) (h : w1.cell? ⟨b, j, none⟩ = some v) dd os => ((below_regrown w1 dd os).cell (p := ⟨b, j, none⟩) hb).trans h
  have q0 := hup hz1 c0
  have q1 := hup hz1 c1
  have x1 := fun w => add_bz (P := Tryd.prog) (w := w) pcnf a (by simp [pcnf]; omega)
  have x2 := fun w => add_bz (P := Tryd.prog) (w := w) (pcnf ++ a) [32] (by simp [pcnf]; omega)
  have x3 := fun w => add_bz (P := Tryd.prog) (w := w) (pcnf ++ a ++ [32]) b (by simp [pcnf]; omega)
  have x4 := fun w => add_bz (P := Tryd.prog) (w := w) (pcnf ++ a ++ [32] ++ b) [10] (by simp [pcnf]; omega)
  have x5 := fun w => add_bz (P := Tryd.prog) (w := w) (pcnf ++ a ++ [32] ++ b ++ [10]) p (by simp [pcnf]; omega)
  obtain ⟨y1, hy1⟩ : ∃ y, pcnf ++ a = y := ⟨_, rfl⟩
  rw [hy1] at x1 x2 x3 x4 x5 hres
  obtain ⟨y2, hy2⟩ : ∃ y, y1 ++ [32] = y := ⟨_, rfl⟩
  rw [hy2] at x2 x3 x4 x5 hres
  obtain ⟨y3, hy3⟩ : ∃ y, y2 ++ b = y := ⟨_, rfl⟩
  rw [hy3] at x3 x4 x5 hres
  obtain ⟨y4, hy4⟩ : ∃ y, y3 ++ [10] = y := ⟨_, rfl⟩
  rw [hy4] at x4 x5 hres
  obtain ⟨y5, hy5⟩ : ∃ y, y4 ++ p = y := ⟨_, rfl⟩
  rw [hy5] at x5 hres
  clear hy1 hy2 hy3 hy4 hy5
  have z1 : (⟨#[112, 32, 99, 110, 102, 32]⟩ : ByteArray) = bz pcnf := rfl
  have z2 : (⟨#[32]⟩ : ByteArray) = bz [32] := rfl
  have z3 : (⟨#[10]⟩ : ByteArray) = bz [10] := rfl
  have HW1 := Lib.hid hw1
  have HB1 := Lib.hid hb1
  have HB2 := Lib.hid (fun d os => hb1.trans ((below_regrown w1 d os).mono hb1.size))
  generalize pcnf = pc at *
  clear hup ha hb hp hw1 hb1 hv
  go_enter Tryd.func10, Tryd.ntmps10
  rw [z1, z2, z3]
  go_upto_region 1 with (fail)
  rw [← HW1.out]
  refine wp_region_quiet_below (by kernel_rfl) (by kernel_rfl) ?_
  repeat (quiet_step (first
      | (go_at_call 24; first | with_reducible exact Calls.regrown_of (HV.out _ _) | with_reducible exact Calls.regrown_of (HN.out _ _))
      | (go_at_call 17; with_reducible exact Calls.regrown_of (HP.out _ _))))
  refine wpQuiet_nil ?_
  intro _ hw'
  obtain ⟨⟨dq, osq⟩, hw''⟩ := hw'
  subst hw''
  go_wp2
  go_ret
  exact ⟨by rw [hres.out]; rfl, HB2.out _ _⟩
end Go.Proofs.YtgfbmidpiamkhaaDoor
