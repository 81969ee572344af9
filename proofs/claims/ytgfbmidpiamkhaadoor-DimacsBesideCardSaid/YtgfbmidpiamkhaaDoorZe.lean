/- slices.Reverse on a row of bytes of the call's own. / dimacs: the text of a number. / A move through a region that draws its order: an operation whose slot is named. No function of the program is in sight. / .. -/
import Derived.RegionTactic
import Derived.ChangeAlike
import Derived.Deep.RegionHeld
import Derived.Test.YtgfbmidpiamkhaaDoorZa
import Derived.Test.YtgfbmidpiamkhaaDoorZc
import Derived.Test.YtgfbmidpiamkhaaDoorZd
namespace Go.Proofs.YtgfbmidpiamkhaaDoor
open Go.RowKit

def byV (n : Nat) : Value := .int .u8 (n : Int)
def revTo (l : List Nat) (k : Nat) : List Nat := (List.range l.length).map fun x => if x < k ∨ l.length - k ≤ x then l.getD (l.length - 1 - x) 0 else l.getD x 0
theorem revTo_length (l : List Nat) (k : Nat) : (revTo l k).length = l.length := by simp [revTo]
theorem revTo_zero (l : List Nat) : revTo l 0 = l := by
  refine List.ext_getElem (revTo_length _ _) fun i h1 h2 => ?_
  simp only [revTo, List.getElem_map, List.getElem_range]
  rw [if_neg (by omega)]; simp [List.getD, h2]
theorem revTo_end {l : List Nat} {k : Nat} (h : l.length ≤ 2 * k + 1) : revTo l k = l.reverse := by
  refine List.ext_getElem (by simp [revTo_length]) fun i h1 h2 => ?_
  have hi : i < l.length := by simpa using h2
  simp only [revTo, List.getElem_map, List.getElem_range, List.getElem_reverse]
  split
  · simp [List.getD, show l.length - 1 - i < l.length by omega]
  · have : l.length - 1 - i = i := by omega
    simp [List.getD, hi, this]
theorem revTo_step {l : List Nat} {k a b : Nat} (h : 2 * k + 1 < l.length) (ha : a = (revTo l k).getD k 0) (hb : b = (revTo l k).getD (l.length - 1 - k) 0) :
    ((revTo l k).set k b).set (l.length - 1 - k) a = revTo l (k + 1) := by
  have hg : ∀ x, x < l.length → (revTo l k).getD x 0 = if x < k ∨ l.length - k ≤ x then l.getD (l.length - 1 - x) 0 else l.getD x 0 := fun x hx => by
    simp [revTo, List.getD, hx]
  refine List.ext_getElem (by simp [revTo_length]) fun i h1 h2 => ?_
  have hi : i < l.length := by simpa [revTo_length] using h2
  rw [hg _ (by omega)] at ha hb
  subst ha hb
  rw [List.getElem_set, List.getElem_set]
  simp only [revTo, List.getElem_map, List.getElem_range]
  by_cases h3 : l.length - 1 - k = i
  · rw [if_pos h3, if_neg (by omega), if_pos (by omega)]
    congr 1; omega
  · rw [if_neg h3]
    by_cases h4 : k = i
    · rw [if_pos h4, if_neg (by omega), if_pos (by omega), h4]
    · rw [if_neg h4]
      by_cases h5 : i < k ∨ l.length - k ≤ i
      · rw [if_pos h5, if_pos (by omega)]
      · rw [if_neg h5, if_neg (by omega)]
theorem own_byCell {w : World} {base : Nat} {e : TypeId} {g n c : Nat} {l : List Nat} (h : w.ownsRow base e 1 (.slice (some ⟨g, 0, none⟩) n c) n (l.map byV)) {i : Nat} (hi : i < l.length) : w.cell? ⟨g, i, none⟩ = some (.int .u8 (l.getD i 0 : Nat)) := by
  have := h.cells (g := g) rfl i (byV l[i]) (by simp [hi])
  rw [add_none, Nat.zero_add] at this
  rw [this, byV]; simp [List.getD, hi]
theorem own_setBy {w : World} {base : Nat} {e : TypeId} {g n c : Nat} {l : List Nat} (h : w.ownsRow base e 1 (.slice (some ⟨g, 0, none⟩) n c) n (l.map byV)) (i x : Nat) : (w.setCell ⟨g, i, none⟩ (.int .u8 (x : Int))).ownsRow base e 1 (.slice (some ⟨g, 0, none⟩) n c) n ((l.set i x).map byV) := by
  have := (h.stored (g := g) (cap := c) i (.int .u8 (x : Int))).1
  rwa [show Value.int .u8 (x : Int) = byV x from rfl, ← List.map_set] at this
def RevPost (base : Nat) (v : Value) (l : List Nat) (w : World) (e : Ending) (w' : World) : Prop :=
  e = .returned (.tuple #[]) ∧ w'.ownsRow base 5 1 v l.length (l.reverse.map byV) ∧ Below base w w'
set_option maxRecDepth 100000 in
set_option maxHeartbeats 1000000 in
theorem ReverseB_any (v : Value) (l : List Nat) (base : Nat) (w : World) (h : w.ownsRow base 5 1 v l.length (l.map byV)) (hn : l.length ≤ 1000000000) :
    Calls Tryd.prog 55 #[v] w (RevPost base v l w) := by
  obtain ⟨A, c, rfl⟩ := own_shape h
  have H := Lib.hid h
  clear h
  go_enter Tryd.func55, Tryd.ntmps55
  go_wp2
  go_loopw [2, 3] (fun sv tv wr => ∃ k : Nat, 2 * k ≤ l.length ∧ sv = .int .i64 k ∧ tv = .int .i64 ((l.length : Int) - 1 - k) ∧ Hid (wr.ownsRow base 5 1 (.slice A l.length c) l.length ((revTo l k).map byV)) ∧ Hid (Below base w wr)) (fun sv _ _ => l.length - (intOf sv).toNat)
  case atStart => exact ⟨0, Nat.zero_le _, rfl, (by simp), (by rw [revTo_zero]; exact H.out), Below.refl _ _⟩
  case round =>
    obtain ⟨w1, rfl⟩ : ∃ w0 : World, w0 = wr := ⟨_, rfl⟩
    obtain ⟨k, hk, rfl, rfl, Ho, Hb⟩ := hrel
    by_cases hlt : 2 * k + 1 < l.length
    · obtain ⟨g, cz, e, hg1, hg2⟩ := own_block Ho.out (by omega)
      cases e
      have hj : ((l.length : Int) - 1 - k) = ((l.length - 1 - k : Nat) : Int) := by omega
      have hrl := revTo_length l k
      have hck := own_byCell Ho.out (i := k) (by omega)
      have hcj := own_byCell Ho.out (i := l.length - 1 - k) (by omega)
      have hfk := Ho.out.frozenAt (g := g) (cap := c) k
      have hfj := Ho.out.frozenAt (g := g) (cap := c) (l.length - 1 - k)
      have hne : k ≠ l.length - 1 - k := by omega
      have Hst := Lib.hid (revTo_step hlt rfl rfl)
      rw [hj]
      obtain ⟨j, hjj⟩ : ∃ j, j = l.length - 1 - k := ⟨_, rfl⟩
      rw [← hjj] at hcj hfj hne Hst ⊢
      have hjl : j < l.length := by omega
      have hkl : k < j := by omega
      obtain ⟨x, hx⟩ : ∃ x, x = (revTo l k).getD k 0 := ⟨_, rfl⟩
      obtain ⟨y, hy⟩ : ∃ y, y = (revTo l k).getD j 0 := ⟨_, rfl⟩
      rw [← hx, ← hy] at Hst
      rw [← hx] at hck
      rw [← hy] at hcj
      have Hjj := Lib.hid hjj
      clear hj hjj hx hy hrl
      have HsA := Lib.hid (own_setBy (own_setBy Ho.out k y) j x)
      have HsB := Lib.hid (own_setBy (own_setBy Ho.out j x) k y)
      rw [Hst.out] at HsA
      rw [List.set_comm x y (fun e => hne e.symm), Hst.out] at HsB
      have HbA := Lib.hid ((Hb.out.setCell (p := ⟨g, k, none⟩) hg1 (.int .u8 (y : Int))).setCell (p := ⟨g, j, none⟩) hg1 (.int .u8 (x : Int)))
      have HbB := Lib.hid ((Hb.out.setCell (p := ⟨g, j, none⟩) hg1 (.int .u8 (x : Int))).setCell (p := ⟨g, k, none⟩) hg1 (.int .u8 (y : Int)))
      go_wp2
      go_region
      all_goals
        go_wp2
        have hjk := Hjj.out
        go_roundw
        case rel => exact ⟨k + 1, by omega, by go_num, (by congr 1; omega), (by first | exact HsA.out | exact HsB.out), (by first | exact below_drewN HbA.out 1 | exact below_drewN HbB.out 1)⟩
        case measure => simp [intOf]; omega
    · have Hrev := Lib.hid (revTo_end (l := l) (k := k) (by omega))
      have hz : (l.length : Int) - 1 - k ≤ k := by omega
      go_wp2
      go_end0
      exact ⟨rfl, by rw [← Hrev.out]; exact Ho.out, Hb.out⟩
end Go.Proofs.YtgfbmidpiamkhaaDoor

namespace Go.Proofs.YtgfbmidpiamkhaaDoor
open Go.RowKit
open D28
namespace D28
def dg (n : Nat) : UInt8 := UInt8.ofNat (48 + n % 10)
/-- the digits, the last one first -/
def rdN (n : Nat) : List Nat := (48 + n % 10) :: (if h : 10 ≤ n then rdN (n / 10) else [])
termination_by n
decreasing_by omega
def digL (n : Nat) : Bs := ((rdN n).reverse).map UInt8.ofNat
def numL (x : Int) : Bs := if x < 0 then 45 :: digL (-x).toNat else digL x.toNat
theorem rdN_eq (n : Nat) : rdN n = (48 + n % 10) :: (if 10 ≤ n then rdN (n / 10) else []) := by
  rw [rdN]; by_cases h : 10 ≤ n <;> simp [h]
theorem rdN_lt (n : Nat) : ∀ x ∈ rdN n, 48 ≤ x ∧ x ≤ 57 := by
  induction n using Nat.strongRecOn with
  | _ n ih =>
    intro x hx
    rw [rdN_eq] at hx
    rcases List.mem_cons.1 hx with rfl | hx
    · omega
    · by_cases h : 10 ≤ n
      · rw [if_pos h] at hx; exact ih _ (by omega) x hx
      · rw [if_neg h] at hx; cases hx
theorem rdN_len (k : Nat) : ∀ n, n < 10 ^ k → (rdN n).length ≤ k + 1 := by
  induction k with
  | zero => intro n h; have : n = 0 := by simpa using h
            subst this; rw [rdN_eq]; simp
  | succ k ih =>
    intro n h
    rw [rdN_eq]
    by_cases h10 : 10 ≤ n
    · rw [if_pos h10]
      have := ih (n / 10) (by rw [Nat.pow_succ] at h; omega)
      simp; omega
    · rw [if_neg h10]; simp
end D28
theorem eB : Elem1 Tryd.prog 80 5 1 := elem1_mk (z := .int .u8 0) Tryd.underlying80 (by kernel_rfl) (by omega) rfl
theorem own_conv {w : World} {B g c : Nat} {l : List Nat} (h : w.ownsRow B 5 1 (.slice (some ⟨g, 0, none⟩) l.length c) l.length (l.map byV)) (hl : ∀ x ∈ l, x < 256) : (convert 80 9 (.slice (some ⟨g, 0, none⟩) l.length c)).run Tryd.prog w = .ok (sv (l.map UInt8.ofNat)) w := by
  have := run_convert_bytes_back (P := Tryd.prog) w 80 9 5 ⟨g, 0, none⟩ c (l.map UInt8.ofNat) Tryd.underlying80 Tryd.underlying5 Tryd.underlying9 (by
    intro j hj
    have hj' : j < l.length := by simpa using hj
    rw [add_none, Nat.zero_add, own_byCell h hj']
    have := hl l[j] (List.getElem_mem hj')
    rw [List.getElem_map]
    have e : (UInt8.ofNat l[j]).toNat = l[j] := by simp; omega
    rw [e]; simp [List.getD, hj'])
  rw [List.length_map] at this
  exact this
set_option maxRecDepth 100000 in
set_option maxHeartbeats 4000000 in
theorem digits_any (n0 : Nat) (w : World) (hn : n0 < 18446744073709551616) : Calls Tryd.prog 44 #[.int .u64 n0] w fun e w' => e = .returned (sv (digL n0)) ∧ Below w.heap.size w w' := by
  obtain ⟨B, hB⟩ : ∃ B, B = w.heap.size := ⟨_, rfl⟩
  rw [← hB]
  have HB := Lib.hid hB
  clear hB
  have h8 : IntKind.u8.wrap ((n0 : Int) % 10) = (n0 : Int) % 10 := by rw [IntKind.wrap_u8]; omega
  have h9 : IntKind.u8.wrap (48 + (n0 : Int) % 10) = 48 + (n0 : Int) % 10 := by rw [IntKind.wrap_u8]; omega
  go_enter Tryd.func44, Tryd.ntmps44
  go_wp2
  have Ho := Lib.hid (World.ownsRow_lit (base := w.heap.size) (e := 5) (size := 1) w #[.int .u8 (48 + (n0 : Int) % 10)] 1 (Nat.le_refl _) (by unfold maxLen; omega) rfl)
  have Hb := Lib.hid (below_alloc w (.cells #[.int .u8 (48 + (n0 : Int) % 10)] 5))
  have h20 := rdN_len 20 n0 (by omega)
  rw [← HB.out] at Ho Hb ⊢
  go_loopw [0, 3] (fun nv bv wr => ∃ (n : Nat) (l : List Nat) (g c : Nat), n < 18446744073709551616 ∧ nv = .int .u64 n ∧ bv = .slice (some ⟨g, 0, none⟩) l.length c ∧ Hid (l ++ (if 10 ≤ n then rdN (n / 10) else []) = rdN n0) ∧ Hid (wr.ownsRow B 5 1 (.slice (some ⟨g, 0, none⟩) l.length c) l.length (l.map byV)) ∧ Hid (Below B w wr)) (fun nv _ _ => (intOf nv).toNat)
  case atStart => exact ⟨n0, [48 + n0 % 10], B, 1, hn, rfl, rfl, by rw [rdN_eq n0]; rfl, Lib.hid (by have := Ho.out; simpa [byV] using this), Hb⟩
  case round =>
    obtain ⟨n, l, g, c, hn, rfl, rfl, HL, HO, HW⟩ := hrel
    have hBw : B ≤ wr.heap.size := by have := HW.out.size; have := HB.out; omega
    have hll : l.length ≤ 21 := by have := congrArg List.length HL.out; simp at this; omega
    by_cases h10 : 10 ≤ n
    · have hd : ((n : Int) / 10) = ((n / 10 : Nat) : Int) := by omega
      obtain ⟨q, hq⟩ : ∃ q, q = n / 10 := ⟨_, rfl⟩
      have HL2 := Lib.hid (show (l ++ [48 + q % 10]) ++ (if 10 ≤ q then rdN (q / 10) else []) = rdN n0 by
        have := HL.out
        rw [if_pos h10, ← hq, rdN_eq q] at this
        simpa using this)
      have hq9 : q < n := by omega
      have hqm : q < 18446744073709551616 := by omega
      have h8 : IntKind.u8.wrap ((q : Int) % 10) = (q : Int) % 10 := by rw [IntKind.wrap_u8]; omega
      have h9 : IntKind.u8.wrap (48 + (q : Int) % 10) = 48 + (q : Int) % 10 := by rw [IntKind.wrap_u8]; omega
      rw [← hq] at hd
      clear hq HL
      go_wp2_with (at_builtin; refine wpList_push rfl _ _ _ rfl eB (v := .slice (some ⟨g, 0, none⟩) l.length c) rfl (HO.out.alloc _) wr.heap.size (.int .u8 (48 + (q : Int) % 10)) rfl (by simp [go_sem]) rfl (by omega) (by simp; omega) ?_; intro v1 w5 hown1 hg1 hat1)
      obtain ⟨g2, c2, rfl, hBg, -⟩ := hown1.form (by omega)
      have HW2 := Lib.hid ((HW.out.alloc hBw _).grown hg1 (by simp; omega) (fun q hq => (HO.out.lt q hq).1))
      have HO2 := Lib.hid (show w5.ownsRow B 5 1 (.slice (some ⟨g2, 0, none⟩) (l ++ [48 + q % 10]).length c2) (l ++ [48 + q % 10]).length ((l ++ [48 + q % 10]).map byV) by simpa [byV] using hown1)
      clear hown1 hg1 hat1
      go_wp2
      go_roundw
      case rel => exact ⟨q, l ++ [48 + q % 10], g2, c2, hqm, rfl, by simp, HL2, HO2, HW2⟩
      case measure => simp [intOf]; omega
    · have Hl := Lib.hid (show l = rdN n0 by have := HL.out; rw [if_neg h10] at this; simpa using this)
      have HR := Lib.hid (ReverseB_any (.slice (some ⟨g, 0, none⟩) l.length c) l B wr HO.out (by omega))
      have h10' : ¬ ((10 : Int) ≤ (n : Int)) := by omega
      clear h10 HL
      go_wp2_with (go_at_call 55; refine HR.out.mono ?_; rintro e w2 ⟨rfl, ho, hb⟩; have HW2 := Lib.hid (HW.out.trans hb); have hcv := own_conv (l := l.reverse) (by rw [List.length_reverse]; exact ho) (fun x hx => by have h1 := rdN_lt n0 x (by rw [← Hl.out]; simpa using hx); omega); rw [List.length_reverse] at hcv; clear ho hb)
      go_ret
      refine ⟨?_, HW2.out⟩
      rw [Hl.out, digL, List.map_reverse]; rfl
end Go.Proofs.YtgfbmidpiamkhaaDoor

namespace Go.Proofs.YtgfbmidpiamkhaaDoor
open Go.RowKit

theorem take_d {P : Program} {ops : Array Oper} {Q : Exit → Act → World → Prop} {md : Region.Mode} {S : World → Prop} {i : Nat} {oi : Oper} {v : Value} {fuel : Nat} {listed : Array Bool} {a : Act} {w : World} (d : Nat) (hi : ops[i]? = some oi) (hd : oi.dst = some d)
    (hs : Region.noSelect ops = true) (hf : Region.free md ops listed i = true) (hr : (Region.ready md ops listed).contains i = true)
    (hQ : ∀ c a w, Q (.panic c) (a.put (some d) v) w → Q (.panic c) a w) (hw : Region.wanted oi (yielded ops a.tmps) = true) (hy : ∀ w, S w → (execOp a.eval oi).run P w = .ok (.value v) w) (hS : S w)
    (h : wpAnyH P md ops Q S fuel (listed.setIfInBounds i true) (a.put (some d) v) w) : wpAnyH P md ops Q S (fuel + 1) listed a w := by
  rw [← hd] at h hQ
  exact wpAnyH_take hi hs hf hr hQ (.inl ⟨hw, hy⟩) hS h
end Go.Proofs.YtgfbmidpiamkhaaDoor

namespace Go.Proofs.YtgfbmidpiamkhaaDoor
open Go.RowKit
open D28

theorem digL_len {n : Nat} (h : n < 100000000000000000000) : (digL n).length ≤ 21 := by
  unfold digL; rw [List.length_map, List.length_reverse]; exact rdN_len 20 n (by omega)
theorem digL_small {n : Nat} (h : n < 10) : digL n = [UInt8.ofNat (48 + n)] := by
  unfold digL; rw [rdN_eq, if_neg (by omega)]; simp [Nat.mod_eq_of_lt h]
theorem digL_more {n : Nat} (h : 10 ≤ n) : digL n = digL (n / 10) ++ [UInt8.ofNat (48 + n % 10)] := by
  unfold digL; rw [rdN_eq, if_pos h]; simp
theorem add_bz {P : Program} {w : World} (a b : Bs) (h : a.length + b.length ≤ 9000000000000000000) : (Op.stringOp .add (bz a) (bz b)).run P w = .ok (.string (bz (a ++ b))) w := by
  rw [run_string_add_sum (P := P) (w := w) (bz a) (bz b) (by rw [bz_size, bz_size]; omega), bz_append]
theorem number_any (x : Int) (w : World) (h : -9223372036854775808 ≤ x ∧ x ≤ 9223372036854775807) : Calls Tryd.prog 24 #[.int .i64 x] w fun e w' => e = .returned (sv (numL x)) ∧ Below w.heap.size w w' := by
  by_cases hx : x < 0
  · have hu : IntKind.u64.wrap x = x + 18446744073709551616 := by rw [IntKind.wrap_u64]; omega
    have hn : IntKind.u64.wrap (-(x + 18446744073709551616)) = (((-x).toNat : Nat) : Int) := by rw [IntKind.wrap_u64]; omega
    obtain ⟨d, hd⟩ : ∃ d, d = (-x).toNat := ⟨_, rfl⟩
    have HD := Lib.hid (fun w => digits_any d w (by omega))
    have Hr := Lib.hid (show numL x = 45 :: digL d by unfold numL; rw [if_pos hx, hd])
    have hadd := fun (w : World) => add_bz (P := Tryd.prog) (w := w) [45] (digL d) (by have := digL_len (n := d) (by omega); simp; omega)
    rw [← hd] at hn
    have hm : (⟨#[45]⟩ : ByteArray) = bz [45] := rfl
    clear hd
    go_enter Tryd.func24, Tryd.ntmps24
    rw [hm]
    go_wp2_with (go_at_call 44; refine (HD.out _).mono ?_; rintro e w1 ⟨rfl, hb⟩; have HB := Lib.hid hb; clear hb)
    go_ret
    rw [Hr.out]
    exact ⟨rfl, HB.out⟩
  · have hu : IntKind.u64.wrap x = ((x.toNat : Nat) : Int) := by rw [IntKind.wrap_u64]; omega
    obtain ⟨d, hd⟩ : ∃ d, d = x.toNat := ⟨_, rfl⟩
    have HD := Lib.hid (fun w => digits_any d w (by omega))
    have Hr := Lib.hid (show numL x = digL d by unfold numL; rw [if_neg hx, hd])
    rw [← hd] at hu
    clear hd
    go_enter Tryd.func24, Tryd.ntmps24
    go_wp2_with (go_at_call 44; refine (HD.out _).mono ?_; rintro e w1 ⟨rfl, hb⟩; have HB := Lib.hid hb; clear hb)
    go_ret
    rw [Hr.out]
    exact ⟨rfl, HB.out⟩
theorem conv_at {w : World} {g a : Nat} {z : Nat × Nat} (h : w.heap[g]? = some (.cells #[.int .u8 a] 5 z)) (ha : a < 256) : (convert 80 9 (.slice (some ⟨g, 0, none⟩) 1 1)).run Tryd.prog w = .ok (sv [UInt8.ofNat a]) w := by
  have := run_convert_bytes_back (P := Tryd.prog) w 80 9 5 ⟨g, 0, none⟩ 1 [UInt8.ofNat a] Tryd.underlying80 Tryd.underlying5 Tryd.underlying9 (by
    intro j hj
    have : j = 0 := by simp at hj; omega
    subst this
    rw [add_none, Nat.zero_add, cell_of_row _ _ 0 _ _ _ h]
    simp; omega)
  exact this
def NumPost (n : Nat) (w : World) (e : Ending) (w' : World) : Prop := e = .returned (sv (digL n)) ∧ Below w.heap.size w w'
set_option maxRecDepth 100000 in
set_option maxHeartbeats 4000000 in
theorem refNumber_nat (n : Nat) : ∀ (w : World), n < 1000000000000000000 → Calls Tryd.prog 39 #[.int .i64 n] w (NumPost n w) := by
  induction n using Nat.strongRecOn with
  | _ n ih =>
    intro w hn
    have hx : ¬ ((n : Int) < 0) := by omega
    by_cases h10 : n < 10
    · have HD := Lib.hid (digL_small h10)
      have h1 : (n : Int) < 10 := by omega
      have e1 : IntKind.i64.wrap (48 + (n : Int)) = ((48 + n : Nat) : Int) := by rw [IntKind.wrap_i64]; omega
      have e2 : IntKind.u8.wrap ((48 + n : Nat) : Int) = ((48 + n : Nat) : Int) := by rw [IntKind.wrap_u8]; omega
      obtain ⟨a, ha⟩ : ∃ a, a = 48 + n := ⟨_, rfl⟩
      rw [← ha] at e1 e2 HD
      have HC := Lib.hid (conv_at (heap_alloc_new w (.cells #[.int .u8 a] 5)) (by omega))
      have hcv := HC.out
      have HB := Lib.hid (below_alloc w (.cells #[.int .u8 (a : Int)] 5))
      clear ha ih
      go_enter Tryd.func39, Tryd.ntmps39
      go_wp2
      go_ret
      exact ⟨by rw [HD.out]; rfl, HB.out⟩
    · have HD := Lib.hid (digL_more (n := n) (by omega))
      have h1 : ¬ ((n : Int) < 10) := by omega
      obtain ⟨q, hq⟩ : ∃ q, q = n / 10 := ⟨_, rfl⟩
      obtain ⟨a, ha⟩ : ∃ a, a = 48 + n % 10 := ⟨_, rfl⟩
      have hqi : (n : Int) / 10 = (q : Int) := by omega
      have e0 : (n : Int) % 10 = ((a : Int) - 48) := by omega
      have em : (n : Int).tmod 10 = ((a : Int) - 48) := by rw [Int.tmod_eq_emod_of_nonneg (by omega)]; omega
      have eqw : IntKind.i64.wrap (q : Int) = (q : Int) := by rw [IntKind.wrap_i64]; omega
      have e1 : IntKind.i64.wrap (48 + ((a : Int) - 48)) = (a : Int) := by rw [IntKind.wrap_i64]; omega
      have e2 : IntKind.u8.wrap (a : Int) = (a : Int) := by rw [IntKind.wrap_u8]; omega
      rw [← hq, ← ha] at HD
      have HN := Lib.hid (fun w => (ih q (by omega) w (by omega)))
      have Hadd := Lib.hid (fun (w : World) => add_bz (P := Tryd.prog) (w := w) (digL q) [UInt8.ofNat a] (by have := digL_len (n := q) (by omega); simp; omega))
      have HC := Lib.hid (fun (w : World) (g : Nat) (z : Nat × Nat) (h : w.heap[g]? = some (.cells #[.int .u8 a] 5 z)) => conv_at h (by omega))
      clear ha hq ih
      go_enter Tryd.func39, Tryd.ntmps39
      go_wp2
      refine wp_region_held_drew (S := (fun _ => True)) (by kernel_rfl) trivial (fun hHeld => ?_)
      refine wpAnyH_take (i := 0) (v := ?_) rfl (by kernel_rfl) (by kernel_rfl) (by kernel_rfl) (fun _ _ _ h => h) (Or.inl ⟨by rfl, ?_⟩) (by assumption) ?_
      rotate_left
      · intro w1 hSw
        (try dsimp only at hSw)
        go_simp
        (try with_reducible rfl)
      (try dsimp only [Act.put, List.setIfInBounds_toArray, List.set_cons_zero, List.set_cons_succ])
      refine wpAnyH_take (i := 1) (v := ?_) rfl (by kernel_rfl) (by kernel_rfl) (by kernel_rfl) (fun _ _ _ h => h) (Or.inl ⟨by rfl, ?_⟩) (by assumption) ?_
      rotate_left
      · intro w1 hSw
        (try dsimp only at hSw)
        go_simp
        (try with_reducible rfl)
      (try dsimp only [Act.put, List.setIfInBounds_toArray, List.set_cons_zero, List.set_cons_succ])
      refine wpAnyH_take (i := 3) (v := ?_) rfl (by kernel_rfl) (by kernel_rfl) (by kernel_rfl) (fun _ _ _ h => h) (Or.inl ⟨by rfl, ?_⟩) (by assumption) ?_
      rotate_left
      · intro w1 hSw
        (try dsimp only at hSw)
        go_simp
        (try with_reducible rfl)
      (try dsimp only [Act.put, List.setIfInBounds_toArray, List.set_cons_zero, List.set_cons_succ])
      refine wpAnyH_take (i := 4) (v := ?_) rfl (by kernel_rfl) (by kernel_rfl) (by kernel_rfl) (fun _ _ _ h => h) (Or.inl ⟨by rfl, ?_⟩) (by assumption) ?_
      rotate_left
      · intro w1 hSw
        (try dsimp only at hSw)
        go_simp
        (try with_reducible rfl)
      (try dsimp only [Act.put, List.setIfInBounds_toArray, List.set_cons_zero, List.set_cons_succ])
      refine wpAnyH_take (i := 5) (v := ?_) rfl (by kernel_rfl) (by kernel_rfl) (by kernel_rfl) (fun _ _ _ h => h) (Or.inl ⟨by rfl, ?_⟩) (by assumption) ?_
      rotate_left
      · intro w1 hSw
        (try dsimp only at hSw)
        go_simp
        (try with_reducible rfl)
      (try dsimp only [Act.put, List.setIfInBounds_toArray, List.set_cons_zero, List.set_cons_succ])
      refine wpAnyH_take (i := 6) (v := ?_) rfl (by kernel_rfl) (by kernel_rfl) (by kernel_rfl) (fun _ _ _ h => h) (Or.inl ⟨by rfl, ?_⟩) (by assumption) ?_
      rotate_left
      · intro w1 hSw
        (try dsimp only at hSw)
        go_simp
        (try with_reducible rfl)
      (try dsimp only [Act.put, List.setIfInBounds_toArray, List.set_cons_zero, List.set_cons_succ])
      have hadd := Hadd.out
      refine wpAnyH_ready (rs := [2, 7]) (by kernel_rfl) (by simp) ?_
      refine AllReadyH.cons rfl (fun K hK => ?_) (AllReadyH.cons rfl (fun K hK => ?_) AllReadyH.nil)
      · skip
        go_simp
        with_reducible refine (HN.out _).mono ?_
        rintro e w5 ⟨rfl, hb5⟩
        refine hK.out _ _ trivial (fun hHeld => ?_)
        clear hK K
        (try dsimp only [Act.put, List.setIfInBounds_toArray, List.set_cons_zero, List.set_cons_succ])
        refine wpAnyH_ready (rs := [7]) (by kernel_rfl) (by simp) ?_
        refine AllReadyH.cons rfl (fun K hK => ?_) AllReadyH.nil
        go_simp
        refine hK.out _ _ trivial (fun hHeld => ?_)
        clear hK K
        (try dsimp only [Act.put, List.setIfInBounds_toArray, List.set_cons_zero, List.set_cons_succ])
        have hcv := HC.out (w5.alloc (.cells #[.int .u8 (a : Int)] 5)) w5.heap.size _ (heap_alloc_new _ _)
        have HB := Lib.hid ((((Below.refl _ w).drew).trans hb5).alloc hb5.size (.cells #[.int .u8 (a : Int)] 5))
        refine wpAnyH_ready (rs := [8]) (by kernel_rfl) (by simp) ?_
        refine AllReadyH.cons rfl (fun K hK => ?_) AllReadyH.nil
        go_simp
        refine hK.out _ _ trivial (fun hHeld => ?_)
        clear hK K
        (try dsimp only [Act.put, List.setIfInBounds_toArray, List.set_cons_zero, List.set_cons_succ])
        refine wpAnyH_ready (rs := [9]) (by kernel_rfl) (by simp) ?_
        refine AllReadyH.cons rfl (fun K hK => ?_) AllReadyH.nil
        go_simp
        refine hK.out _ _ trivial (fun hHeld => ?_)
        clear hK K
        (try dsimp only [Act.put, List.setIfInBounds_toArray, List.set_cons_zero, List.set_cons_succ])
        refine take_d (i := 10) (v := ?_) 2 rfl rfl (by kernel_rfl) (by kernel_rfl) (by kernel_rfl) (fun _ _ _ h => h) (by kernel_rfl) ?_ (by assumption) ?_
        rotate_left
        · intro w1 hSw
          (try dsimp only at hSw)
          go_simp
          (try with_reducible rfl)
        (simp only [Act.put, List.setIfInBounds_toArray, List.set_cons_zero, List.set_cons_succ])
        refine wpAnyH_done (by kernel_rfl) ?_ _
        go_wp2
        go_ret
        exact ⟨by rw [HD.out]; rfl, HB.out⟩
      · skip
        go_simp
        refine hK.out _ _ trivial (fun hHeld => ?_)
        clear hK K
        (try dsimp only [Act.put, List.setIfInBounds_toArray, List.set_cons_zero, List.set_cons_succ])
        refine wpAnyH_ready (rs := [2, 8]) (by kernel_rfl) (by simp) ?_
        refine AllReadyH.cons rfl (fun K hK => ?_) (AllReadyH.cons rfl (fun K hK => ?_) AllReadyH.nil)
        · skip
          go_simp
          with_reducible refine (HN.out _).mono ?_
          rintro e w5 ⟨rfl, hb5⟩
          refine hK.out _ _ trivial (fun hHeld => ?_)
          clear hK K
          (try dsimp only [Act.put, List.setIfInBounds_toArray, List.set_cons_zero, List.set_cons_succ])
          have hrow := (hb5.block w.heap.size (by simp)).trans (heap_alloc_new w (.cells #[.int .u8 (a : Int)] 5))
          have hcv := HC.out w5 w.heap.size _ hrow
          have HB := Lib.hid (((Below.refl _ w).alloc (Nat.le_refl _) (.cells #[.int .u8 (a : Int)] 5)).drew.trans (hb5.mono (by simp)))
          refine wpAnyH_ready (rs := [8]) (by kernel_rfl) (by simp) ?_
          refine AllReadyH.cons rfl (fun K hK => ?_) AllReadyH.nil
          go_simp
          refine hK.out _ _ trivial (fun hHeld => ?_)
          clear hK K
          (try dsimp only [Act.put, List.setIfInBounds_toArray, List.set_cons_zero, List.set_cons_succ])
          refine wpAnyH_ready (rs := [9]) (by kernel_rfl) (by simp) ?_
          refine AllReadyH.cons rfl (fun K hK => ?_) AllReadyH.nil
          go_simp
          refine hK.out _ _ trivial (fun hHeld => ?_)
          clear hK K
          (try dsimp only [Act.put, List.setIfInBounds_toArray, List.set_cons_zero, List.set_cons_succ])
          refine take_d (i := 10) (v := ?_) 2 rfl rfl (by kernel_rfl) (by kernel_rfl) (by kernel_rfl) (fun _ _ _ h => h) (by kernel_rfl) ?_ (by assumption) ?_
          rotate_left
          · intro w1 hSw
            (try dsimp only at hSw)
            go_simp
            (try with_reducible rfl)
          (simp only [Act.put, List.setIfInBounds_toArray, List.set_cons_zero, List.set_cons_succ])
          refine wpAnyH_done (by kernel_rfl) ?_ _
          go_wp2
          go_ret
          exact ⟨by rw [HD.out]; rfl, HB.out⟩
        · skip
          have hcv := HC.out (w.alloc (.cells #[.int .u8 (a : Int)] 5)).drew w.heap.size _ (heap_alloc_new w (.cells #[.int .u8 (a : Int)] 5))
          go_simp
          refine hK.out _ _ trivial (fun hHeld => ?_)
          clear hK K
          (try dsimp only [Act.put, List.setIfInBounds_toArray, List.set_cons_zero, List.set_cons_succ])
          refine wpAnyH_ready (rs := [2]) (by kernel_rfl) (by simp) ?_
          refine AllReadyH.cons rfl (fun K hK => ?_) AllReadyH.nil
          go_simp
          with_reducible refine (HN.out _).mono ?_
          rintro e w5 ⟨rfl, hb5⟩
          refine hK.out _ _ trivial (fun hHeld => ?_)
          clear hK K
          (try dsimp only [Act.put, List.setIfInBounds_toArray, List.set_cons_zero, List.set_cons_succ])
          have HB := Lib.hid (((Below.refl _ w).alloc (Nat.le_refl _) (.cells #[.int .u8 (a : Int)] 5)).drew.trans (hb5.mono (by simp)))
          refine wpAnyH_ready (rs := [9]) (by kernel_rfl) (by simp) ?_
          refine AllReadyH.cons rfl (fun K hK => ?_) AllReadyH.nil
          go_simp
          refine hK.out _ _ trivial (fun hHeld => ?_)
          clear hK K
          (try dsimp only [Act.put, List.setIfInBounds_toArray, List.set_cons_zero, List.set_cons_succ])
          refine take_d (i := 10) (v := ?_) 2 rfl rfl (by kernel_rfl) (by kernel_rfl) (by kernel_rfl) (fun _ _ _ h => h) (by kernel_rfl) ?_ (by assumption) ?_
          rotate_left
          · intro w1 hSw
            (try dsimp only at hSw)
            go_simp
            (try with_reducible rfl)
          (simp only [Act.put, List.setIfInBounds_toArray, List.set_cons_zero, List.set_cons_succ])
          refine wpAnyH_done (by kernel_rfl) ?_ _
          go_wp2
          go_ret
          exact ⟨by rw [HD.out]; rfl, HB.out⟩
end Go.Proofs.YtgfbmidpiamkhaaDoor
