/- dimacs.line, PrintProof: numbers and an ending nought, as a line. -/
import Derived.Test.YtgfbmidpiamkhaaDoorDiP2
import Derived.Test.YtgfbmidpiamkhaaDoorDiBk
namespace Go.Proofs.YtgfbmidpiamkhaaDoor
open Go.RowKit
open D28
namespace D28
def litT (n : Int) : Bs := numL n ++ [32]
def lineL (c : List Int) : Bs := c.flatMap litT ++ [48, 10]
def printL (l : List (List Int)) : Bs := l.flatMap lineL
def okN (n : Int) : Prop := -999999999 ≤ n ∧ n ≤ 999999999
end D28
theorem numL_len {x : Int} (h : -9223372036854775808 ≤ x ∧ x ≤ 9223372036854775807) : (numL x).length ≤ 22 := by
  unfold numL
  split
  · have := digL_len (n := (-x).toNat) (by omega); simp; omega
  · have := digL_len (n := x.toNat) (by omega); omega
theorem refNumber_any (x : Int) (w : World) (h : okN x) : Calls Tryd.prog 39 #[.int .i64 x] w fun e w' => e = .returned (sv (numL x)) ∧ Below w.heap.size w w' := by
  obtain ⟨h1, h2⟩ := h
  by_cases hx : x < 0
  · have hn : IntKind.i64.wrap (-x) = (((-x).toNat : Nat) : Int) := by rw [IntKind.wrap_i64]; omega
    obtain ⟨d, hd⟩ : ∃ d, d = (-x).toNat := ⟨_, rfl⟩
    have HD := Lib.hid (fun w => show Calls Tryd.prog 39 #[.int .i64 d] w fun e w' => e = .returned (sv (digL d)) ∧ Below w.heap.size w w' from refNumber_nat d w (by omega))
    have Hr := Lib.hid (show numL x = 45 :: digL d by unfold numL; rw [if_pos hx, hd])
    have hadd := fun (w : World) => add_bz (P := Tryd.prog) (w := w) [45] (digL d) (by have := digL_len (n := d) (by omega); simp; omega)
    rw [← hd] at hn
    have hm : (⟨#[45]⟩ : ByteArray) = bz [45] := rfl
    clear hd
    go_enter Tryd.func39, Tryd.ntmps39
    rw [hm]
    go_wp2_with (go_at_call 39; with_reducible refine (HD.out _).mono ?_; rintro e w1 ⟨rfl, hb⟩; have HB := Lib.hid hb; clear hb)
    go_ret
    rw [Hr.out]
    exact ⟨rfl, HB.out⟩
  · have Hr := Lib.hid (show numL x = digL x.toNat by unfold numL; rw [if_neg hx])
    obtain ⟨d, rfl⟩ : ∃ d : Nat, x = d := ⟨x.toNat, by omega⟩
    refine (refNumber_nat d w (by omega)).mono ?_
    rintro e w' ⟨rfl, hb⟩
    exact ⟨by rw [Hr.out]; rfl, hb⟩
/-! ### the builder -/
theorem bldAt_keep {B b : Nat} {p : Value} {bs : List Value} {w w' : World} (h : Lib.BuilderAtF 82 5 B b p bs w) (hk : ∀ k, k < w.heap.size → w'.heap[k]? = w.heap[k]?) : Lib.BuilderAtF 82 5 B b p bs w' := by
  obtain ⟨hB, v, hb, hown, hne⟩ := h
  refine ⟨hB, v, (hk b (Array.getElem?_eq_some_iff.1 hb).1).trans hb, ?_, hne⟩
  obtain ⟨h1, h2 | ⟨g, cap, cur, fz, hv, hbg, hg, hr⟩⟩ := hown
  · exact ⟨h1, .inl h2⟩
  · exact ⟨h1, .inr ⟨g, cap, cur, fz, hv, hbg, (hk g (Array.getElem?_eq_some_iff.1 hg).1).trans hg, hr⟩⟩
theorem BldF.up {B b : Nat} {bs : List Value} {w w' : World} (h : BldF B b bs w) (hb : Below w.heap.size w w') : BldF B b bs w' :=
  h.elim (fun h => .inl (bldAt_keep h hb.block)) (fun h => .inr (bldAt_keep h hb.block))
theorem BldF.obj {B b : Nat} {bs : List Value} {w : World} (h : BldF B b bs w) : ∃ c, w.heap[b]? = some (.cells c 82 (0, 0)) := by
  rcases h with ⟨_, v, hb, _⟩ | ⟨_, v, hb, _⟩ <;> exact ⟨_, hb⟩
theorem BldF.lo {B b : Nat} {bs : List Value} {w : World} (h : BldF B b bs w) : B ≤ b := by
  rcases h with ⟨h, _⟩ | ⟨h, _⟩ <;> exact h
theorem oth_below {b : Nat} {a w w' : World} (h : Others (some b) a w) (hb : Below w.heap.size w w') : Others (some b) a w' := fun k o hk h1 h2 => by
  have := h k o hk h1 h2
  exact (hb.block k (Array.getElem?_eq_some_iff.1 this).1).trans this
theorem strCells_bz (a : Bs) : Lib.strCells (bz a) = Lib.byteCells a := rfl
/-- what the builder's writers do -/
structure Wr (B b : Nat) (t : Bs) (w w' : World) : Prop where
  bld : BldF B b (Lib.byteCells t) w'
  below : Below B w w'
  oth : Others (some b) w w'
theorem Wr.up {B b : Nat} {t : Bs} {w w1 w2 : World} (h : Wr B b t w w1) (hb : Below w1.heap.size w1 w2) (hB : B ≤ w.heap.size) : Wr B b t w w2 := ⟨h.bld.up hb, h.below.trans (hb.mono (Nat.le_trans hB h.below.size)), oth_below h.oth hb⟩
theorem Wr.drew {B b : Nat} {t : Bs} {w w1 : World} (h : Wr B b t w w1) (hB : B ≤ w.heap.size) : Wr B b t w w1.drew := h.up (Below.refl _ _).drew hB
theorem byteCells_append (a b : Bs) : Lib.byteCells (a ++ b) = Lib.byteCells a ++ Lib.byteCells b := by simp [Lib.byteCells]
theorem Wr.str {B b : Nat} {t s : Bs} {w w1 : World} (h : Wr B b t w w1) (hB : B ≤ w.heap.size) (hl : t.length + s.length ≤ 1000000000) : Calls Tryd.prog 43 #[.pointer (some ⟨b, 0, none⟩), sv s] w1 fun e w' => e = .returned (.tuple #[.int .i64 (bz s).size, .nilIface]) ∧ Wr B b (t ++ s) w w' := by
  refine (WriteString_k B b _ (bz s) w1 h.bld (by rw [Lib.byteCells_length, bz_size]; omega) (Nat.le_trans hB h.below.size)).mono ?_
  rintro e w' ⟨rfl, h1, h2, h3⟩
  exact ⟨rfl, by rw [byteCells_append]; exact h1, h.below.trans h2, Lib.OthersKept.trans h.oth h3⟩
theorem Wr.byte {B b : Nat} {t : Bs} {c : UInt8} {w w1 : World} (h : Wr B b t w w1) (hB : B ≤ w.heap.size) (hl : t.length ≤ 1000000000) : Calls Tryd.prog 53 #[.pointer (some ⟨b, 0, none⟩), .int .u8 c.toNat] w1 fun e w' => e = .returned .nilIface ∧ Wr B b (t ++ [c]) w w' := by
  refine (WriteByte_k B b _ c.toNat w1 h.bld (by rw [Lib.byteCells_length]; omega) (Nat.le_trans hB h.below.size)).mono ?_
  rintro e w' ⟨rfl, h1, h2, h3⟩
  exact ⟨rfl, by rw [byteCells_append]; exact h1, h.below.trans h2, Lib.OthersKept.trans h.oth h3⟩
/-- a row of numbers that the builder's writers leave as it is -/
def Stays (B b : Nat) (w : World) (v : Value) (c : List Int) : Prop := ∀ w', Below B w w' → Others (some b) w w' → ∃ S, RInts w' S v c
theorem lits_len {c : List Int} (h : ∀ n ∈ c, okN n) : (c.flatMap litT).length ≤ 23 * c.length := by
  induction c with
  | nil => simp
  | cons n c ih =>
    have := ih fun m hm => h m (by simp [hm])
    have h2 := h n (by simp)
    have h3 := numL_len (x := n) (by obtain ⟨a, b⟩ := h2; omega)
    simp only [List.flatMap_cons, List.length_append, List.length_cons]
    have : (litT n).length = (numL n).length + 1 := by simp [litT]
    omega
set_option maxRecDepth 100000 in
set_option maxHeartbeats 4000000 in
theorem line_any (B b : Nat) (t head : Bs) (v : Value) (c : List Int) (w : World) (hb : BldF B b (Lib.byteCells t) w) (hB : B ≤ w.heap.size) (hv : Stays B b w v c) (hn : ∀ n ∈ c, okN n) (hc : c.length ≤ 1000) (ht : t.length ≤ 10000000) (hh : head.length ≤ 1000) :
    Calls Tryd.prog 37 #[.pointer (some ⟨b, 0, none⟩), sv head, v] w fun e w' => e = .returned (.tuple #[]) ∧ Wr B b (t ++ head ++ lineL c) w w' := by
  obtain ⟨S0, hv0⟩ := hv w (Below.refl _ _) (Lib.OthersKept.refl _ _ _)
  obtain ⟨A, cv, rfl, hm, -⟩ := hv0.open_
  have HB := Lib.hid hB
  have Hv := Lib.hid hv
  have H0 := Lib.hid (Wr.str (s := head) (⟨hb, Below.refl _ _, Lib.OthersKept.refl _ _ _⟩ : Wr B b t w w) hB (by omega))
  have hl := lits_len hn
  clear hv hv0 hb hB
  go_enter Tryd.func37, Tryd.ntmps37
  go_wp2_with (go_at_call 43; refine H0.out.mono ?_; rintro e w1 ⟨rfl, h1⟩; have H1 := Lib.hid h1; clear h1)
  go_loopw [13] (fun iv wr => ∃ k : Nat, k ≤ c.length ∧ iv = .int .i64 k ∧ Hid (Wr B b (t ++ head ++ (c.take k).flatMap litT) w wr)) (fun iv _ => c.length - (intOf iv).toNat)
  case atStart => exact ⟨0, Nat.zero_le _, rfl, by simpa using H1⟩
  case round =>
    obtain ⟨k, hk, rfl, HW⟩ := hrel
    have htl : (t ++ head ++ (c.take k).flatMap litT).length ≤ 20000000 := by
      have := lits_len (c := c.take k) fun n hn' => hn n (List.mem_of_mem_take hn')
      simp only [List.length_append, List.length_take] at this ⊢
      omega
    by_cases hlt : k < c.length
    · obtain ⟨S, hS⟩ := Hv.out _ HW.out.below HW.out.oth
      obtain ⟨A', c', e', -, hat⟩ := hS.open_
      cases e'
      obtain ⟨g, off, u, rfl, hg, hcell, hu⟩ := hat.at_ RInt.stable (Ag.refl _ _) hlt
      obtain rfl := hu
      have hnk := hn _ (List.getElem_mem hlt)
      have Hs := Lib.hid (show (c.take (k + 1)).flatMap litT = (c.take k).flatMap litT ++ (numL c[k] ++ [32]) by rw [List.take_succ_eq_append_getElem hlt, List.flatMap_append]; simp [litT])
      obtain ⟨n, hne⟩ : ∃ n, n = c[k] := ⟨_, rfl⟩
      rw [← hne] at hcell hnk Hs
      have hn22 := numL_len (x := n) (by obtain ⟨a, b⟩ := hnk; omega)
      have HN := Lib.hid (fun w => number_any n w (by obtain ⟨a, b⟩ := hnk; omega))
      have HS := Lib.hid (fun (w1 : World) (h : Wr B b (t ++ head ++ (c.take k).flatMap litT) w w1) => h.str (s := numL n) HB.out (by omega))
      have HY := Lib.hid (fun (w1 : World) (h : Wr B b (t ++ head ++ (c.take k).flatMap litT ++ numL n) w w1) => h.byte (c := 32) HB.out (by rw [List.length_append]; omega))
      clear hne hS hat
      go_wp2_with (first
        | (go_at_call 24; refine (HN.out _).mono ?_; rintro e w2 ⟨rfl, hb2⟩; have H2 := Lib.hid (HW.out.up hb2 HB.out); clear hb2)
        | (go_at_call 43; refine (HS.out _ H2.out).mono ?_; rintro e w3 ⟨rfl, h3⟩; have H3 := Lib.hid h3; clear h3)
        | (go_at_call 53; refine (HY.out _ H3.out).mono ?_; rintro e w4 ⟨rfl, h4⟩; have H4 := Lib.hid h4; clear h4))
      go_roundw
      case rel => exact ⟨k + 1, by omega, by go_num, Lib.hid (by rw [Hs.out]; simpa using H4.out)⟩
      case measure => simp [intOf]; omega
    · obtain rfl : k = c.length := by omega
      have HE := Lib.hid (Wr.str (s := [48, 10]) HW.out HB.out (by simp at htl ⊢; omega))
      have hz : (⟨#[48, 10]⟩ : ByteArray) = bz [48, 10] := rfl
      rw [List.take_length] at HE
      clear htl hlt
      go_wp2_with (go_at_call 43; refine HE.out.mono ?_; rintro e w2 ⟨rfl, h2⟩; have H2 := Lib.hid h2; clear h2)
      go_end0
      exact ⟨rfl, by have := H2.out; simpa [lineL] using this⟩
end Go.Proofs.YtgfbmidpiamkhaaDoor
