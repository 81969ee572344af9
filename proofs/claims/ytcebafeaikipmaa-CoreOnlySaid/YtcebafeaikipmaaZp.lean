/- What sorts the learned clauses: the relation, the comparator, exchanges. / swapRange, rotate: some order of the learned clauses comes of another one. / insertionSort: some order of the learned clauses comes of another one. -/
import Derived.BigQuiet
import Derived.Deep.LoopGhost
import Derived.Shelf.RegionOpenPlain
import Derived.Test.YtcebafeaikipmaaZj
namespace Go.Proofs.Ytcebafeaikipmaa.S15
open Go.RowKit

/-- the learned clauses lie in the order l -/
def Srt (w0 : World) (B S : Nat) (ad : List Nat) (vl : Rl → Value) (s : St) (w : World) (l : List Nat) : Prop :=
  SAt w B S ad vl { s with learned := l } ∧ Stp w0 B S ad vl w ad vl ∧ l.Perm s.learned
section
variable {w0 w : World} {B S : Nat} {ad : List Nat} {vl : Rl → Value} {s : St} {l : List Nat}
theorem Srt.len (h : Srt w0 B S ad vl s w l) : l.length = s.learned.length := h.2.2.length_eq
theorem Srt.drew (h : Srt w0 B S ad vl s w l) (n : Nat) : Srt w0 B S ad vl s (w.drewN n) l :=
  ⟨h.1.new (below_drewN (Below.refl _ _) _), h.2.1.trans (h.1.stpNew (below_drewN (Below.refl _ _) _)), h.2.2⟩
theorem Srt.drew1 (h : Srt w0 B S ad vl s w l) : Srt w0 B S ad vl s w.drew l :=
  ⟨h.1.new (Below.refl _ _).drew, h.2.1.trans (h.1.stpNew (Below.refl _ _).drew), h.2.2⟩
theorem Srt.cell (h : Srt w0 B S ad vl s w l) {g n c : Nat} (hv : vl .ln = .slice (some ⟨g, 0, none⟩) n c) {i : Nat} (hi : i < l.length) : w.cell? ⟨g, i, none⟩ = some (.pointer (some ⟨ad.getD l[i] 0, 0, none⟩)) := by
  have e := h.1.rows .ln
  rw [hv] at e
  exact e.cell (by simp only [cont, List.getElem?_map, List.getElem?_eq_getElem hi]; rfl)
theorem Srt.frozen (h : Srt w0 B S ad vl s w l) {g n c : Nat} (hv : vl .ln = .slice (some ⟨g, 0, none⟩) n c) (i : Nat) : w.frozen? ⟨g, i, none⟩ = false := by
  have e := h.1.rows .ln
  rw [hv] at e
  exact e.frozen i
theorem Srt.swap (h : Srt w0 B S ad vl s w l) {g n c : Nat} (hv : vl .ln = .slice (some ⟨g, 0, none⟩) n c) {i j : Nat} (hi : i < l.length) (hj : j < l.length) :
    Srt w0 B S ad vl s ((w.setCell ⟨g, i, none⟩ (.pointer (some ⟨ad.getD l[j] 0, 0, none⟩))).setCell ⟨g, j, none⟩ (.pointer (some ⟨ad.getD l[i] 0, 0, none⟩))) (swp l i j) := by
  have e1 : l.getD i 0 = l[i] := by rw [List.getD_eq_getElem?_getD, List.getElem?_eq_getElem hi]; rfl
  have e2 : l.getD j 0 = l[j] := by rw [List.getD_eq_getElem?_getD, List.getElem?_eq_getElem hj]; rfl
  have h1 := h.1.setRow .ln hv i (.pointer (some ⟨ad.getD l[j] 0, 0, none⟩)) { s with learned := l.set i l[j] } (fun r hr => by cases r <;> first | rfl | exact absurd rfl hr) (by simp only [cont, List.map_set]; rfl) rfl rfl (fun _ _ => rfl)
  have h2 := h1.setRow .ln hv j (.pointer (some ⟨ad.getD l[i] 0, 0, none⟩)) { s with learned := swp l i j } (fun r hr => by cases r <;> first | rfl | exact absurd rfl hr) (by simp only [cont, swp, e1, e2, List.map_set]; rfl) rfl rfl (fun _ _ => rfl)
  exact ⟨h2, (h.2.1.trans (h.1.stpRow .ln hv i _)).trans (h1.stpRow .ln hv j _), (swp_perm hi hj).trans h.2.2⟩
end
set_option maxHeartbeats 1000000 in
theorem Cmp_any {w : World} {B S : Nat} {ad : List Nat} {vl : Rl → Value} {s : St} (h : SAt w B S ad vl s) {c d : Nat} (hc : c < s.cls.length) (hd : d < s.cls.length) :
    ∃ z : Int, ∀ k, Calls Try.prog 67 #[.pointer (some ⟨ad.getD c 0, 0, none⟩), .pointer (some ⟨ad.getD d 0, 0, none⟩)] (w.drewN k) fun e w' => e = .returned (.int .i64 z) ∧ ∃ n, w' = (w.drewN k).drewN n := by
  refine ⟨wrap64 ((s.cl c).used - (s.cl d).used), fun k => ?_⟩
  have c1 := h.cellC (k := 1) hc (v := .int .i64 (s.cl c).used) rfl
  have d1 := h.cellC (k := 1) hd (v := .int .i64 (s.cl d).used) rfl
  obtain ⟨p, hp⟩ : ∃ p, p = ad.getD c 0 := ⟨_, rfl⟩
  obtain ⟨q, hq⟩ : ∃ p, p = ad.getD d 0 := ⟨_, rfl⟩
  obtain ⟨u, hu⟩ : ∃ p, p = (s.cl c).used := ⟨_, rfl⟩
  obtain ⟨v, hv⟩ : ∃ p, p = (s.cl d).used := ⟨_, rfl⟩
  rw [← hp, ← hu] at c1
  rw [← hq, ← hv] at d1
  rw [← hp, ← hq, ← hu, ← hv]
  clear hp hq hu hv h hc hd
  go_enter Try.func67, Try.ntmps67
  go_wp2
  go_quiet (fail)
  go_wp2
  go_ret
  exact ⟨rfl, _, rfl⟩
end Go.Proofs.Ytcebafeaikipmaa.S15

namespace Go.Proofs.Ytcebafeaikipmaa.S15
open Go.RowKit

set_option maxRecDepth 100000 in
set_option maxHeartbeats 8000000 in
theorem swapRange_any {w0 : World} {B S : Nat} {ad : List Nat} {vl : Rl → Value} {s : St} {g n c : Nat} (hv : vl .ln = .slice (some ⟨g, 0, none⟩) n c) (hn : n = s.learned.length) (hn9 : n ≤ 1000000000) (fv : Value) {a b m : Nat} (ha : a + m ≤ n) (hb : b + m ≤ n) (hab : a + m ≤ b) {w : World} {l : List Nat} (h : Srt w0 B S ad vl s w l) :
    Calls Try.prog 73 #[.slice (some ⟨g, 0, none⟩) n c, .int .i64 a, .int .i64 b, .int .i64 m, fv] w fun e w' => e = .returned (.tuple #[]) ∧ ∃ l', Srt w0 B S ad vl s w' l' := by
  have H := Lib.hid h
  have Hv := Lib.hid hv
  have Hn := Lib.hid hn
  have hnc : n ≤ c := by
    have e := h.1.rows .ln
    rw [hv] at e
    exact e.len.2
  clear h hv hn
  go_enter Try.func73, Try.ntmps73
  go_wp2_with fail
  go_loopw [10] (fun iv wr => ∃ (i : Nat) (l' : List Nat), i ≤ m ∧ iv = .int .i64 i ∧ Hid (Srt w0 B S ad vl s wr l')) (fun iv _ => m - (intOf iv).toNat)
  case atStart => exact ⟨0, l, Nat.zero_le _, rfl, H⟩
  case round =>
    obtain ⟨w1, hw1⟩ : ∃ w1 : World, w1 = wr := ⟨_, rfl⟩
    rw [← hw1] at hrel ⊢
    clear hw1
    obtain ⟨i, l', him, rfl, HS⟩ := hrel
    rcases Nat.lt_or_ge i m with hi | hi
    · have hl : l'.length = n := by rw [Hn.out]; exact HS.out.len
      have h1 : a + i < l'.length := by omega
      have h2 : b + i < l'.length := by omega
      obtain ⟨x, hx⟩ : ∃ x, x = a + i := ⟨_, rfl⟩
      obtain ⟨y, hy⟩ : ∃ y, y = b + i := ⟨_, rfl⟩
      have hxn : x < n := by omega
      have hyn : y < n := by omega
      have hxy : x ≠ y := by omega
      have k1 := HS.out.cell Hv.out (i := x) (by omega)
      have k2 := HS.out.cell Hv.out (i := y) (by omega)
      have f1 := HS.out.frozen Hv.out x
      have f2 := HS.out.frozen Hv.out y
      have hsw := HS.out.swap Hv.out (i := x) (j := y) (by omega) (by omega)
      obtain ⟨p, hp⟩ : ∃ p, p = ad.getD (l'[x]'(by omega)) 0 := ⟨_, rfl⟩
      obtain ⟨q, hq⟩ : ∃ p, p = ad.getD (l'[y]'(by omega)) 0 := ⟨_, rfl⟩
      rw [← hp] at k1
      rw [← hq] at k2
      rw [← hp, ← hq] at hsw
      have HSw := Lib.hid hsw
      have ex : (a : Int) + (i : Int) = (x : Int) := by omega
      have ey : (b : Int) + (i : Int) = (y : Int) := by omega
      clear hsw hp hq hl h1 h2 hx hy
      go_wp2_with fail
      go_region
      obtain ⟨w2, hw2⟩ : ∃ w2, w2 = ((w1.setCell ⟨g, x, none⟩ (.pointer (some ⟨q, 0, none⟩))).setCell ⟨g, y, none⟩ (.pointer (some ⟨p, 0, none⟩))).drew := ⟨_, rfl⟩
      have HS2 := Lib.hid (show Srt w0 B S ad vl s w2 (swp l' x y) by rw [hw2]; exact HSw.out.drew1)
      rw [← hw2]
      clear hw2 ex ey k1 k2 f1 f2
      go_wp2_with fail
      go_roundw
      case rel => exact ⟨i + 1, _, by omega, by go_num, HS2⟩
      case measure => simp [intOf]; omega
    · obtain rfl : i = m := by omega
      go_wp2_with fail
      go_end0
      exact ⟨rfl, l', HS.out⟩
set_option maxRecDepth 100000 in
set_option maxHeartbeats 8000000 in
theorem rotate_any {w0 : World} {B S : Nat} {ad : List Nat} {vl : Rl → Value} {s : St} {g n c : Nat} (hv : vl .ln = .slice (some ⟨g, 0, none⟩) n c) (hn : n = s.learned.length) (hn9 : n ≤ 1000000000) (fv : Value) {a m b : Nat} (ham : a < m) (hmb : m < b) (hb : b ≤ n) {w : World} {l : List Nat} (h : Srt w0 B S ad vl s w l) :
    Calls Try.prog 72 #[.slice (some ⟨g, 0, none⟩) n c, .int .i64 a, .int .i64 m, .int .i64 b, fv] w fun e w' => e = .returned (.tuple #[]) ∧ ∃ l', Srt w0 B S ad vl s w' l' := by
  have H := Lib.hid h
  have HC := Lib.hid (fun (a b m : Nat) (ha : a + m ≤ n) (hb : b + m ≤ n) (hab : a + m ≤ b) (w : World) (l : List Nat) (h : Srt w0 B S ad vl s w l) => swapRange_any hv hn hn9 fv ha hb hab h)
  clear h hv hn
  go_enter Try.func72, Try.ntmps72
  go_wp2_with fail
  go_loopw [10, 11] (fun iv jv wr => ∃ (i j : Nat) (l' : List Nat), iv = .int .i64 i ∧ jv = .int .i64 j ∧ 1 ≤ i ∧ 1 ≤ j ∧ i ≤ m ∧ m + j ≤ b ∧ Hid (Srt w0 B S ad vl s wr l')) (fun iv jv _ => (intOf iv).toNat + (intOf jv).toNat)
  case atStart => exact ⟨m - a, b - m, l, by go_num, by go_num, by omega, by omega, by omega, by omega, H⟩
  case round =>
    obtain ⟨w1, hw1⟩ : ∃ w1 : World, w1 = wr := ⟨_, rfl⟩
    rw [← hw1] at hrel ⊢
    clear hw1
    obtain ⟨i, j, l', rfl, rfl, hi1, hj1, him, hjb, HS⟩ := hrel
    rcases Nat.lt_trichotomy i j with hij | hij | hij
    · have z1 : ((i : Int) != (j : Int)) = true := bne_iff_ne.2 (by omega)
      have z2 : decide ((j : Int) < (i : Int)) = false := decide_eq_false (by omega)
      obtain ⟨p, hp⟩ : ∃ p, p = m - i := ⟨_, rfl⟩
      obtain ⟨q, hq⟩ : ∃ p, p = m + j - i := ⟨_, rfl⟩
      have HF := Lib.hid (HC.out p q i (by omega) (by omega) (by omega) w1 l' HS.out)
      have e1 : (m : Int) - (i : Int) = (p : Int) := by omega
      have e2 : (m : Int) + (j : Int) - (i : Int) = (q : Int) := by omega
      clear hp hq
      go_wp2_with (go_at_call 73; go_loud (with_reducible refine HF.out.mono ?_); rintro e w2 ⟨rfl, l2, h2⟩; (have HS2 := Lib.hid h2; clear h2))
      go_roundw
      case rel => exact ⟨i, j - i, l2, rfl, by go_num, by omega, by omega, by omega, by omega, HS2⟩
      case measure => simp [intOf]; omega
    · subst hij
      have z1 : ((i : Int) != (i : Int)) = false := by simp
      obtain ⟨p, hp⟩ : ∃ p, p = m - i := ⟨_, rfl⟩
      have HF := Lib.hid (HC.out p m i (by omega) (by omega) (by omega) w1 l' HS.out)
      have e1 : (m : Int) - (i : Int) = (p : Int) := by omega
      clear hp
      go_wp2_with (go_at_call 73; go_loud (with_reducible refine HF.out.mono ?_); rintro e w2 ⟨rfl, l2, h2⟩; (have HS2 := Lib.hid h2; clear h2))
      go_end0
      exact ⟨rfl, l2, HS2.out⟩
    · have z1 : ((i : Int) != (j : Int)) = true := bne_iff_ne.2 (by omega)
      have z2 : decide ((j : Int) < (i : Int)) = true := decide_eq_true (by omega)
      obtain ⟨p, hp⟩ : ∃ p, p = m - i := ⟨_, rfl⟩
      have HF := Lib.hid (HC.out p m j (by omega) (by omega) (by omega) w1 l' HS.out)
      have e1 : (m : Int) - (i : Int) = (p : Int) := by omega
      clear hp
      go_wp2_with (go_at_call 73; go_loud (with_reducible refine HF.out.mono ?_); rintro e w2 ⟨rfl, l2, h2⟩; (have HS2 := Lib.hid h2; clear h2))
      go_roundw
      case rel => exact ⟨i - j, j, l2, by go_num, rfl, by omega, by omega, by omega, by omega, HS2⟩
      case measure => simp [intOf]; omega
end Go.Proofs.Ytcebafeaikipmaa.S15

namespace Go.Proofs.Ytcebafeaikipmaa.S15
open Go.RowKit

theorem cf44 (args : Array Value) (w : World) : (callFunc 67 args).run Try.prog w = .ok (.enter 67 args) w := callFunc_run (by exact Try.func67) (by decide +kernel) (by kernel_rfl) args w
set_option maxRecDepth 100000 in
set_option maxHeartbeats 8000000 in
theorem insertion_any {w0 : World} {B S : Nat} {ad : List Nat} {vl : Rl → Value} {s : St} {g n c : Nat} (hv : vl .ln = .slice (some ⟨g, 0, none⟩) n c) (hn : n = s.learned.length) (hn9 : n ≤ 1000000000) (hln : ∀ d ∈ s.learned, d < s.cls.length) {a b : Nat} (hab : a ≤ b) (hb : b ≤ n) {w : World} {l : List Nat} (h : Srt w0 B S ad vl s w l) :
    Calls Try.prog 70 #[.slice (some ⟨g, 0, none⟩) n c, .int .i64 a, .int .i64 b, .func (.func 67) #[] #[]] w fun e w' => e = .returned (.tuple #[]) ∧ ∃ l', Srt w0 B S ad vl s w' l' := by
  have H := Lib.hid h
  have Hv := Lib.hid hv
  have Hn := Lib.hid hn
  have Hln := Lib.hid hln
  have hcf := cf44
  have hnc : n ≤ c := by
    have e := h.1.rows .ln
    rw [hv] at e
    exact e.len.2
  clear h hv hn hln
  go_enter Try.func70, Try.ntmps70
  go_wp2_with fail
  go_loopg [8] (b - a) (fun gk iv wr => ∃ (i : Nat) (l' : List Nat), iv = .int .i64 i ∧ a < i ∧ i ≤ b + 1 ∧ Hid (gk + i = b + 1 ∧ Srt w0 B S ad vl s wr l'))
  case atStart => exact ⟨a + 1, l, by go_num, by omega, by omega, Lib.hid ⟨by omega, H.out⟩⟩
  case round =>
    obtain ⟨w1, hw1⟩ : ∃ w1 : World, w1 = wr := ⟨_, rfl⟩
    rw [← hw1] at hrel ⊢
    clear hw1
    obtain ⟨i, l', rfl, hai, hib, HS⟩ := hrel
    rcases Nat.lt_or_ge i b with hi | hi
    · have z0 : decide ((i : Int) < (b : Int)) = true := decide_eq_true (by omega)
      go_wp2_with fail
      go_loopg [9] i (fun gk jv wr => ∃ (j : Nat) (l' : List Nat), jv = .int .i64 j ∧ a ≤ j ∧ j ≤ i ∧ Hid (gk = j ∧ Srt w0 B S ad vl s wr l'))
      case atStart => exact ⟨i, l', rfl, by omega, Nat.le_refl _, Lib.hid ⟨rfl, HS.out.2⟩⟩
      case round =>
        obtain ⟨w2, hw2⟩ : ∃ w2 : World, w2 = wr := ⟨_, rfl⟩
        rw [← hw2] at hrel ⊢
        clear hw2
        obtain ⟨j, l2, rfl, haj, hji, HS2⟩ := hrel
        rcases Nat.lt_or_ge a j with hj | hj
        · have hl : l2.length = n := by rw [Hn.out]; exact HS2.out.2.len
          obtain ⟨x, hx⟩ : ∃ x, j = x + 1 := ⟨j - 1, by omega⟩
          subst hx
          have hxn : x + 1 < n := by omega
          have k1 := HS2.out.2.cell Hv.out (i := x + 1) (by omega)
          have k2 := HS2.out.2.cell Hv.out (i := x) (by omega)
          have f1 := HS2.out.2.frozen Hv.out (x + 1)
          have f2 := HS2.out.2.frozen Hv.out x
          have hsw := fun (w3 : World) (h : Srt w0 B S ad vl s w3 l2) => (⟨h.cell Hv.out (i := x + 1) (by omega), h.cell Hv.out (i := x) (by omega), h.swap Hv.out (i := x + 1) (j := x) (by omega) (by omega)⟩ : _ ∧ _ ∧ _)
          have hm1 : l2[x + 1] < s.cls.length := Hln.out _ (HS2.out.2.2.2.mem_iff.1 (List.getElem_mem _))
          have hm2 : l2[x] < s.cls.length := Hln.out _ (HS2.out.2.2.2.mem_iff.1 (List.getElem_mem _))
          obtain ⟨z, hz⟩ := Cmp_any (s := { s with learned := l2 }) HS2.out.2.1 hm1 hm2
          obtain ⟨p, hp⟩ : ∃ p, p = ad.getD (l2[x + 1]'(by omega)) 0 := ⟨_, rfl⟩
          obtain ⟨q, hq⟩ : ∃ p, p = ad.getD (l2[x]'(by omega)) 0 := ⟨_, rfl⟩
          rw [← hp, ← hq] at hz
          rw [← hp] at k1
          rw [← hq] at k2
          rw [← hp, ← hq] at hsw
          have HSw := Lib.hid hsw
          have HZ := Lib.hid hz
          have z1 : decide ((a : Int) < (x : Int) + 1) = true := decide_eq_true (by omega)
          clear hsw hp hq hl hz hm1 hm2
          rcases Int.lt_or_le z 0 with hz0 | hz0
          · have z2 : decide (z < 0) = true := decide_eq_true hz0
            go_wp2_with fail
            go_quiet ((go_at_call 67; exact Calls.quiet_of (HZ.out _)))
            obtain ⟨w3, hw3⟩ : ∃ w3, w3 = w2.drewN nq := ⟨_, rfl⟩
            have HS3 := Lib.hid (show Srt w0 B S ad vl s w3 l2 by rw [hw3]; exact HS2.out.2.drew nq)
            rw [← hw3]
            clear hw3 k1 k2 f1 f2
            obtain ⟨k1, k2, hsw⟩ := HSw.out w3 HS3.out
            have f1 := HS3.out.frozen Hv.out (x + 1)
            have f2 := HS3.out.frozen Hv.out x
            have HSx := Lib.hid hsw
            clear hsw
            go_wp2_with fail
            go_region
            obtain ⟨w4, hw4⟩ : ∃ w4, w4 = ((w3.setCell ⟨g, x + 1, none⟩ (.pointer (some ⟨q, 0, none⟩))).setCell ⟨g, x, none⟩ (.pointer (some ⟨p, 0, none⟩))).drew := ⟨_, rfl⟩
            have HS4 := Lib.hid (show Srt w0 B S ad vl s w4 (swp l2 (x + 1) x) by rw [hw4]; exact HSx.out.drew1)
            rw [← hw4]
            clear hw4 k1 k2 f1 f2
            go_wp2_with fail
            go_roundg x
            case rel => exact ⟨x, _, by go_num, by omega, by omega, Lib.hid ⟨rfl, HS4.out⟩⟩
            case measure => rw [HS2.out.1]; omega
          · have z2 : decide (z < 0) = false := decide_eq_false (by omega)
            go_wp2_with fail
            go_quiet ((go_at_call 67; exact Calls.quiet_of (HZ.out _)))
            obtain ⟨w3, hw3⟩ : ∃ w3, w3 = w2.drewN nq := ⟨_, rfl⟩
            have HS3 := Lib.hid (show Srt w0 B S ad vl s w3 l2 by rw [hw3]; exact HS2.out.2.drew nq)
            rw [← hw3]
            clear hw3 k1 k2 f1 f2
            go_wp2_with fail
            go_roundg (b - i)
            case rel => exact ⟨i + 1, l2, by go_num, by omega, by omega, Lib.hid ⟨by omega, HS3.out⟩⟩
            case measure => have := HS.out.1; omega
        · have z1 : decide (a < j) = false := decide_eq_false (by omega)
          go_wp2_with fail
          go_quiet (fail)
          obtain ⟨w3, hw3⟩ : ∃ w3, w3 = w2.drewN nq := ⟨_, rfl⟩
          have HS3 := Lib.hid (show Srt w0 B S ad vl s w3 l2 by rw [hw3]; exact HS2.out.2.drew nq)
          rw [← hw3]
          clear hw3
          go_wp2_with fail
          go_roundg (b - i)
          case rel => exact ⟨i + 1, l2, by go_num, by omega, by omega, Lib.hid ⟨by omega, HS3.out⟩⟩
          case measure => have := HS.out.1; omega
    · have z0 : decide ((i : Int) < (b : Int)) = false := decide_eq_false (by omega)
      go_wp2_with fail
      go_end0
      exact ⟨rfl, l', HS.out.2⟩
end Go.Proofs.Ytcebafeaikipmaa.S15
