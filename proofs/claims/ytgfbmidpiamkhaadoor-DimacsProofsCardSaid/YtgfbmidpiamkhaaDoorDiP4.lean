/- dimacs.PrintProof, Print; the reference's PrintProof. -/
import Derived.Test.YtgfbmidpiamkhaaDoorDiP3
import Derived.Deep.RegionHeld
import Derived.Test.YtgfbmidpiamkhaaDoorTakeD
namespace Go.Proofs.YtgfbmidpiamkhaaDoor
open Go.RowKit
open D28
namespace D28
/-- clauses of which the laws speak -/
def LightL (l : List (List Int)) : Prop := l.length ≤ 60 ∧ ∀ c ∈ l, c.length ≤ 30 ∧ ∀ n ∈ c, okN n ∧ n ≠ 0
end D28
theorem D28.LightL.ok {l : List (List Int)} (h : LightL l) {k : Nat} (hk : k < l.length) : l[k].length ≤ 30 ∧ ∀ n ∈ l[k], okN n := ⟨(h.2 _ (List.getElem_mem hk)).1, fun n hn => ((h.2 _ (List.getElem_mem hk)).2 n hn).1⟩
theorem lineL_len {c : List Int} (h : ∀ n ∈ c, okN n) : (lineL c).length ≤ 23 * c.length + 2 := by
  have := lits_len h
  unfold lineL
  simp only [List.length_append, List.length_cons, List.length_nil]; omega
theorem printL_len {l : List (List Int)} (h : ∀ c ∈ l, c.length ≤ 30 ∧ ∀ n ∈ c, okN n) : (printL l).length ≤ 700 * l.length := by
  unfold printL
  induction l with
  | nil => simp
  | cons c l ih =>
    have h1 := ih fun x hx => h x (by simp [hx])
    have h2 := lineL_len (h c (by simp)).2
    have h3 := (h c (by simp)).1
    simp only [List.flatMap_cons, List.length_append, List.length_cons]
    omega
theorem D28.LightL.pre {l : List (List Int)} (h : LightL l) (k : Nat) : (printL (l.take k)).length ≤ 42000 := by
  have h1 := printL_len (l := l.take k) fun c hc => ⟨(h.2 c (List.mem_of_mem_take hc)).1, fun n hn => ((h.2 c (List.mem_of_mem_take hc)).2 n hn).1⟩
  have h2 := h.1
  rw [List.length_take] at h1
  have : 700 * min k l.length ≤ 700 * 60 := Nat.mul_le_mul_left _ (by omega)
  omega
theorem bld_new (w : World) : BldF w.heap.size w.heap.size (Lib.byteCells []) (w.alloc (.cells #[.pointer none, .slice none 0 0] 82)) :=
  .inl (Lib.BuilderAtF.of ⟨Nat.le_refl _, .slice none 0 0, heap_alloc_new _ _, World.ownsRow_nil _ _ _ _, by simp [Value.ownBlock]⟩)
theorem Wr.string {B b : Nat} {t : Bs} {w w1 : World} (h : Wr B b t w w1) (hB : B ≤ w.heap.size) : Calls Tryd.prog 38 #[.pointer (some ⟨b, 0, none⟩)] w1 fun e w' => e = .returned (sv t) ∧ Below B w w' := by
  refine (String_k B b t w1 h.bld (Nat.le_trans hB h.below.size)).mono ?_
  rintro e w' ⟨rfl, h2, -⟩
  exact ⟨rfl, h.below.trans h2⟩
set_option maxRecDepth 100000 in
set_option maxHeartbeats 4000000 in
theorem PrintProof_any (v : Value) (l : List (List Int)) (w : World) (hv : RIntss w (Lt w.heap.size) v l) (hl : LightL l) : Calls Tryd.prog 17 #[v] w fun e w' => e = .returned (sv (printL l)) ∧ Below w.heap.size w w' := by
  obtain ⟨A, cv, rfl, hm, hat⟩ := hv.open_
  have Hat := Lib.hid hat
  have hl60 := hl.1
  have H0 := Lib.hid (⟨bld_new w, Below.refl _ _, Lib.OthersKept.refl _ _ _⟩ : Wr w.heap.size w.heap.size [] (w.alloc (.cells #[.pointer none, .slice none 0 0] 82)) (w.alloc (.cells #[.pointer none, .slice none 0 0] 82)))
  have HA := Lib.hid (below_alloc w (.cells #[.pointer none, .slice none 0 0] 82))
  obtain ⟨w0, hw0⟩ : ∃ w0, w0 = w.alloc (.cells #[.pointer none, .slice none 0 0] 82) := ⟨_, rfl⟩
  rw [← hw0] at H0 HA
  have HBz := Lib.hid (HA.out.size)
  have HW0 := Lib.hid hw0
  clear hw0 hv hat
  have hz : (⟨#[]⟩ : ByteArray) = bz [] := rfl
  go_enter Tryd.func17, Tryd.ntmps17
  rw [hz]
  go_wp2
  rw [← HW0.out]
  go_loopw [8] (fun iv wr => ∃ k : Nat, k ≤ l.length ∧ iv = .int .i64 k ∧ Hid (Wr w.heap.size w.heap.size (printL (l.take k)) w0 wr)) (fun iv _ => l.length - (intOf iv).toNat)
  case atStart => exact ⟨0, Nat.zero_le _, rfl, by simpa [printL] using H0⟩
  case round =>
    obtain ⟨k, hk, rfl, HW⟩ := hrel
    have hpre := hl.pre k
    by_cases hlt : k < l.length
    · have hwb := HA.out.trans HW.out.below
      obtain ⟨g, off, u, rfl, hg, hcell, hu⟩ := Hat.out.at_ RInts.stable (ag_of_below hwb) hlt
      obtain ⟨h30, hok⟩ := hl.ok hlt
      have Hs := Lib.hid (show printL (l.take (k + 1)) = printL (l.take k) ++ lineL l[k] by unfold printL; rw [List.take_succ_eq_append_getElem hlt, List.flatMap_append]; simp)
      have HL := Lib.hid (line_any w.heap.size w.heap.size (printL (l.take k)) [] u l[k] wr HW.out.bld (Nat.le_trans HBz.out HW.out.below.size) (fun w' hb _ => ⟨_, RInts.stable.below hu hb⟩) hok (by omega) (by omega) (by simp))
      obtain ⟨A2, c2, rfl, -, -⟩ := hu.open_
      clear hu hwb hpre
      go_wp2_with (go_at_call 37; refine HL.out.mono ?_; rintro e w2 ⟨rfl, h2⟩; have H2 := Lib.hid h2; clear h2)
      go_roundw
      case rel => exact ⟨k + 1, by omega, by go_num, Lib.hid ⟨by rw [Hs.out]; simpa using H2.out.bld, HW.out.below.trans H2.out.below, Lib.OthersKept.trans HW.out.oth H2.out.oth⟩⟩
      case measure => simp [intOf]; omega
    · obtain rfl : k = l.length := by omega
      have HS := Lib.hid (HW.out.string HBz.out)
      rw [List.take_length] at HS
      clear hlt hk hpre
      go_wp2_with (go_at_call 38; refine HS.out.mono ?_; rintro e w2 ⟨rfl, h2⟩; have H2 := Lib.hid h2; clear h2)
      go_ret
      exact ⟨rfl, HA.out.trans H2.out⟩
set_option maxRecDepth 100000 in
set_option maxHeartbeats 4000000 in
theorem refPrintProof_any (v : Value) (l : List (List Int)) (w : World) (hv : RIntss w (Lt w.heap.size) v l) (hl : LightL l) : Calls Tryd.prog 18 #[v] w fun e w' => e = .returned (sv (printL l)) ∧ Below w.heap.size w w' := by
  obtain ⟨A, cv, rfl, hm, hat⟩ := hv.open_
  have Hat := Lib.hid hat
  have hl60 := hl.1
  have hz : (⟨#[]⟩ : ByteArray) = bz [] := rfl
  have hz1 : (⟨#[32]⟩ : ByteArray) = bz [32] := rfl
  have hz2 : (⟨#[48, 10]⟩ : ByteArray) = bz [48, 10] := rfl
  clear hv hat
  go_enter Tryd.func18, Tryd.ntmps18
  rw [hz, hz1, hz2]
  go_wp2
  go_loopw [10, 3] (fun iv sv' wr => ∃ k : Nat, k ≤ l.length ∧ iv = .int .i64 k ∧ sv' = sv (printL (l.take k)) ∧ Hid (Below w.heap.size w wr)) (fun iv _ _ => l.length - (intOf iv).toNat)
  case atStart => exact ⟨0, Nat.zero_le _, rfl, rfl, Lib.hid (Below.refl _ _)⟩
  case round =>
    obtain ⟨k, hk, rfl, rfl, HW⟩ := hrel
    have hpre := hl.pre k
    by_cases hlt : k < l.length
    · obtain ⟨g, off, u, rfl, hg, hcell, hu⟩ := Hat.out.at_ RInts.stable (ag_of_below HW.out) hlt
      obtain ⟨h30, hok⟩ := hl.ok hlt
      have Hs := Lib.hid (show printL (l.take (k + 1)) = printL (l.take k) ++ lineL l[k] by unfold printL; rw [List.take_succ_eq_append_getElem hlt, List.flatMap_append]; simp)
      obtain ⟨T, hT⟩ : ∃ T, T = printL (l.take k) := ⟨_, rfl⟩
      rw [← hT] at hpre Hs ⊢
      obtain ⟨c, hc⟩ : ∃ c, c = l[k] := ⟨_, rfl⟩
      rw [← hc] at hu h30 hok Hs
      obtain ⟨A2, c2, rfl, hm2, hat2⟩ := hu.open_
      have Hat2 := Lib.hid hat2
      have Hu := Lib.hid hu
      clear hT hc hat2 hu
      go_wp2
      go_loopw [16, 3] (fun jv sv' w2 => ∃ j : Nat, j ≤ c.length ∧ jv = .int .i64 j ∧ sv' = sv (T ++ (c.take j).flatMap litT) ∧ Hid (Below wr.heap.size wr w2)) (fun jv _ _ => c.length - (intOf jv).toNat)
      case atStart => exact ⟨0, Nat.zero_le _, rfl, by simp, Lib.hid (Below.refl _ _)⟩
      case round =>
        rename_i wq
        obtain ⟨j, hj, rfl, rfl, HQ⟩ := hrel
        have hacc : (T ++ (c.take j).flatMap litT).length ≤ 50000 := by
          have := lits_len (c := c.take j) fun n hn' => hok n (List.mem_of_mem_take hn')
          simp only [List.length_append, List.length_take] at this ⊢
          omega
        by_cases hjlt : j < c.length
        · obtain ⟨g2, off2, u2, rfl, hg2, hcell2, hu2⟩ := Hat2.out.at_ RInt.stable (ag_of_below (HQ.out.mono HW.out.size)) hjlt
          obtain rfl := hu2
          have hnk := hok _ (List.getElem_mem hjlt)
          have Hs2 := Lib.hid (show T ++ (c.take (j + 1)).flatMap litT = (T ++ (c.take j).flatMap litT) ++ (numL c[j] ++ [32]) by rw [List.take_succ_eq_append_getElem hjlt, List.flatMap_append]; simp [litT])
          obtain ⟨n, hne⟩ : ∃ n, n = c[j] := ⟨_, rfl⟩
          rw [← hne] at hcell2 hnk Hs2
          have hn22 := numL_len (x := n) (by obtain ⟨a, b⟩ := hnk; omega)
          have HN := Lib.hid (fun w => refNumber_any n w hnk)
          obtain ⟨X, hX⟩ : ∃ X, X = T ++ (c.take j).flatMap litT := ⟨_, rfl⟩
          rw [← hX] at hacc Hs2 ⊢
          have a1 := fun (w : World) => add_bz (P := Tryd.prog) (w := w) (numL n) [32] (by simp; omega)
          have a2 := fun (w : World) => add_bz (P := Tryd.prog) (w := w) X (numL n ++ [32]) (by simp; omega)
          clear hne hX
          go_wp2_with (go_at_call 39; refine (HN.out _).mono ?_; rintro e w3 ⟨rfl, hb3⟩; have H3 := Lib.hid (HQ.out.trans (hb3.mono HQ.out.size)); clear hb3)
          go_roundw
          case rel => exact ⟨j + 1, by omega, by go_num, by rw [Hs2.out], H3⟩
          case measure => simp [intOf]; omega
        · obtain rfl : j = c.length := by omega
          have HB2 := Lib.hid (HW.out.trans (HQ.out.mono HW.out.size))
          rw [List.take_length] at hacc ⊢
          have Hs2 := Lib.hid (show (T ++ c.flatMap litT) ++ [48, 10] = printL (l.take (k + 1)) by rw [Hs.out]; simp [lineL])
          obtain ⟨X, hX⟩ : ∃ X, X = T ++ c.flatMap litT := ⟨_, rfl⟩
          rw [← hX] at hacc Hs2 ⊢
          have a2 := fun (w : World) => add_bz (P := Tryd.prog) (w := w) X [48, 10] (by simp; omega)
          clear hX hjlt hj
          go_wp2
          go_roundw
          case rel => exact ⟨k + 1, by omega, by go_num, by rw [Hs2.out], HB2⟩
          case measure => simp [intOf]; omega
    · obtain rfl : k = l.length := by omega
      rw [List.take_length]
      clear hlt hk hpre
      go_wp2
      go_ret
      exact ⟨rfl, HW.out⟩
end Go.Proofs.YtgfbmidpiamkhaaDoor
