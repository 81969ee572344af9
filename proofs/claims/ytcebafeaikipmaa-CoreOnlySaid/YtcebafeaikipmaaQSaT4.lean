/- symMerge: some order of the learned clauses comes of another one. -/
import Derived.Test.YtcebafeaikipmaaZp
namespace Go.Proofs.Ytcebafeaikipmaa.S15
open Go.RowKit

set_option maxRecDepth 100000 in
set_option maxHeartbeats 16000000 in
theorem symMerge1 {w0 : World} {B S : Nat} {ad : List Nat} {vl : Rl → Value} {s : St} {g n c : Nat} (hv : vl .ln = .slice (some ⟨g, 0, none⟩) n c) (hn : n = s.learned.length) (hn9 : n ≤ 1000000000) (hln : ∀ d ∈ s.learned, d < s.cls.length)  {a m b : Nat} (hone : m = a + 1) (ham : a < m) (hmb : m < b) (hbn : b ≤ n) {w : World} {l : List Nat} (h : Srt w0 B S ad vl s w l) :
    Calls Try.prog 71 #[.slice (some ⟨g, 0, none⟩) n c, .int .i64 a, .int .i64 m, .int .i64 b, .func (.func 67) #[] #[]] w fun e w' => e = .returned (.tuple #[]) ∧ ∃ l', Srt w0 B S ad vl s w' l' := by
  have H := Lib.hid h
  have HR := Lib.hid (fun (a m b : Nat) (ham : a < m) (hmb : m < b) (hb : b ≤ n) (w : World) (l : List Nat) (h : Srt w0 B S ad vl s w l) => rotate_any hv hn hn9 (.func (.func 67) #[] #[]) ham hmb hb h)
  have hcf := cf44
  have hnc : n ≤ c := by
    have e := h.1.rows .ln
    rw [hv] at e
    exact e.len.2
  have HRd := Lib.hid (fun (w : World) (l : List Nat) (h : Srt w0 B S ad vl s w l) (i j : Nat) (hi : i < n) (hj : j < n) => show ∃ (p q : Nat) (z : Int), w.cell? ⟨g, i, none⟩ = some (.pointer (some ⟨p, 0, none⟩)) ∧ w.cell? ⟨g, j, none⟩ = some (.pointer (some ⟨q, 0, none⟩)) ∧ w.frozen? ⟨g, i, none⟩ = false ∧ w.frozen? ⟨g, j, none⟩ = false ∧
      (∀ k, Calls Try.prog 67 #[.pointer (some ⟨p, 0, none⟩), .pointer (some ⟨q, 0, none⟩)] (w.drewN k) fun e w' => e = .returned (.int .i64 z) ∧ ∃ n, w' = (w.drewN k).drewN n) ∧
      ∃ l', Srt w0 B S ad vl s ((w.setCell ⟨g, i, none⟩ (.pointer (some ⟨q, 0, none⟩))).setCell ⟨g, j, none⟩ (.pointer (some ⟨p, 0, none⟩))) l' by
    have hl : l.length = n := by rw [hn]; exact h.len
    obtain ⟨z, hz⟩ := Cmp_any (s := { s with learned := l }) h.1 (c := l[i]) (d := l[j]) (hln _ (h.2.2.mem_iff.1 (List.getElem_mem _))) (hln _ (h.2.2.mem_iff.1 (List.getElem_mem _)))
    exact ⟨ad.getD l[i] 0, ad.getD l[j] 0, z, h.cell hv (by omega), h.cell hv (by omega), h.frozen hv i, h.frozen hv j, hz, _, h.swap hv (i := i) (j := j) (by omega) (by omega)⟩)
  clear h hv hn hln
  have z1 : ((m : Int) - (a : Int) == 1) = true := by rw [beq_iff_eq]; omega
  clear hone
  go_enter Try.func71, Try.ntmps71
  go_wp2_with fail
  go_loopw [10, 11] (fun iv jv wr => ∃ (i j : Nat) (l' : List Nat), iv = .int .i64 i ∧ jv = .int .i64 j ∧ m ≤ i ∧ i ≤ j ∧ j ≤ b ∧ Hid (Srt w0 B S ad vl s wr l')) (fun iv jv _ => (intOf jv).toNat - (intOf iv).toNat)
  case atStart => exact ⟨m, b, l, by go_num, by go_num, Nat.le_refl _, by omega, Nat.le_refl _, H⟩
  case round =>
    obtain ⟨w1, hw1⟩ : ∃ w1 : World, w1 = wr := ⟨_, rfl⟩
    rw [← hw1] at hrel ⊢
    clear hw1
    obtain ⟨i, j, l1, rfl, rfl, hmi, hij, hjb, HS⟩ := hrel
    rcases Nat.lt_or_ge i j with hlt | hge
    · go_wp2_with fail
      obtain ⟨h, hh⟩ : ∃ h : Nat, h = (i + j) / 2 := ⟨_, rfl⟩
      rw [show ((i : Int) + (j : Int)) / 2 = (h : Int) by omega]
      have hh1 : i ≤ h := by omega
      have hh2 : h < j := by omega
      clear hh
      obtain ⟨p, q, z, k1, k2, -, -, hz, -⟩ := HRd.out w1 l1 HS.out h a (by omega) (by omega)
      have HZ := Lib.hid hz
      clear hz
      rcases Int.lt_or_le z 0 with hz0 | hz0
      · have z2 : decide (z < 0) = true := decide_eq_true hz0
        go_quiet ((go_at_call 67; exact Calls.quiet_of (HZ.out _)))
        have HS2 := Lib.hid (HS.out.drew nq)
        go_wp2_with fail
        go_roundw
        case rel => exact ⟨h + 1, j, l1, by go_num, rfl, by omega, by omega, by omega, HS2⟩
        case measure => simp [intOf]; omega
      · have z2 : decide (z < 0) = false := decide_eq_false (by omega)
        go_quiet ((go_at_call 67; exact Calls.quiet_of (HZ.out _)))
        have HS2 := Lib.hid (HS.out.drew nq)
        go_wp2_with fail
        go_roundw
        case rel => exact ⟨i, h, l1, rfl, rfl, by omega, by omega, by omega, HS2⟩
        case measure => simp [intOf]; omega
    · obtain rfl : i = j := by omega
      go_wp2_with fail
      go_loopw [13] (fun kv wr => ∃ (k : Nat) (l' : List Nat), kv = .int .i64 k ∧ k ≤ i ∧ Hid (Srt w0 B S ad vl s wr l')) (fun kv _ => i - (intOf kv).toNat)
      case atStart => exact ⟨a, l1, rfl, by omega, HS⟩
      case round =>
        obtain ⟨w2, hw2⟩ : ∃ w2 : World, w2 = wr := ⟨_, rfl⟩
        rw [← hw2] at hrel ⊢
        clear hw2
        obtain ⟨k, l2, rfl, hki, HS2⟩ := hrel
        rcases Nat.lt_or_ge (k + 1) i with hlt | hge2
        · have z3 : decide ((k : Int) < (i : Int) - 1) = true := decide_eq_true (by omega)
          obtain ⟨p, q, -, k1, k2, f1, f2, -, l3, h3⟩ := HRd.out w2 l2 HS2.out k (k + 1) (by omega) (by omega)
          have HS3 := Lib.hid h3
          have hkn : k + 1 < n := by omega
          clear h3
          go_wp2_with fail
          go_region
          have HS4 := Lib.hid HS3.out.drew1
          clear k1 k2 f1 f2
          go_wp2_with fail
          go_roundw
          case rel => exact ⟨k + 1, l3, by go_num, by omega, HS4⟩
          case measure => simp [intOf]; omega
        · have z3 : decide ((k : Int) < (i : Int) - 1) = false := decide_eq_false (by omega)
          go_wp2_with fail
          refine bodyPost_ret (results_none rfl _ _ _) rfl ?_
          exact ⟨rfl, l2, HS2.out⟩
set_option maxRecDepth 100000 in
set_option maxHeartbeats 16000000 in
theorem symMerge2 {w0 : World} {B S : Nat} {ad : List Nat} {vl : Rl → Value} {s : St} {g n c : Nat} (hv : vl .ln = .slice (some ⟨g, 0, none⟩) n c) (hn : n = s.learned.length) (hn9 : n ≤ 1000000000) (hln : ∀ d ∈ s.learned, d < s.cls.length)  {a m b : Nat} (hone : ¬ m = a + 1) (htwo : b = m + 1) (ham : a < m) (hmb : m < b) (hbn : b ≤ n) {w : World} {l : List Nat} (h : Srt w0 B S ad vl s w l) :
    Calls Try.prog 71 #[.slice (some ⟨g, 0, none⟩) n c, .int .i64 a, .int .i64 m, .int .i64 b, .func (.func 67) #[] #[]] w fun e w' => e = .returned (.tuple #[]) ∧ ∃ l', Srt w0 B S ad vl s w' l' := by
  have H := Lib.hid h
  have HR := Lib.hid (fun (a m b : Nat) (ham : a < m) (hmb : m < b) (hb : b ≤ n) (w : World) (l : List Nat) (h : Srt w0 B S ad vl s w l) => rotate_any hv hn hn9 (.func (.func 67) #[] #[]) ham hmb hb h)
  have hcf := cf44
  have hnc : n ≤ c := by
    have e := h.1.rows .ln
    rw [hv] at e
    exact e.len.2
  have HRd := Lib.hid (fun (w : World) (l : List Nat) (h : Srt w0 B S ad vl s w l) (i j : Nat) (hi : i < n) (hj : j < n) => show ∃ (p q : Nat) (z : Int), w.cell? ⟨g, i, none⟩ = some (.pointer (some ⟨p, 0, none⟩)) ∧ w.cell? ⟨g, j, none⟩ = some (.pointer (some ⟨q, 0, none⟩)) ∧ w.frozen? ⟨g, i, none⟩ = false ∧ w.frozen? ⟨g, j, none⟩ = false ∧
      (∀ k, Calls Try.prog 67 #[.pointer (some ⟨p, 0, none⟩), .pointer (some ⟨q, 0, none⟩)] (w.drewN k) fun e w' => e = .returned (.int .i64 z) ∧ ∃ n, w' = (w.drewN k).drewN n) ∧
      ∃ l', Srt w0 B S ad vl s ((w.setCell ⟨g, i, none⟩ (.pointer (some ⟨q, 0, none⟩))).setCell ⟨g, j, none⟩ (.pointer (some ⟨p, 0, none⟩))) l' by
    have hl : l.length = n := by rw [hn]; exact h.len
    obtain ⟨z, hz⟩ := Cmp_any (s := { s with learned := l }) h.1 (c := l[i]) (d := l[j]) (hln _ (h.2.2.mem_iff.1 (List.getElem_mem _))) (hln _ (h.2.2.mem_iff.1 (List.getElem_mem _)))
    exact ⟨ad.getD l[i] 0, ad.getD l[j] 0, z, h.cell hv (by omega), h.cell hv (by omega), h.frozen hv i, h.frozen hv j, hz, _, h.swap hv (i := i) (j := j) (by omega) (by omega)⟩)
  clear h hv hn hln
  have z1 : ((m : Int) - (a : Int) == 1) = false := beq_eq_false_iff_ne.2 (by omega)
  have z1b : ((b : Int) - (m : Int) == 1) = true := by rw [beq_iff_eq]; omega
  clear hone htwo
  go_enter Try.func71, Try.ntmps71
  go_wp2_with fail
  go_loopw [14, 15] (fun iv jv wr => ∃ (i j : Nat) (l' : List Nat), iv = .int .i64 i ∧ jv = .int .i64 j ∧ a ≤ i ∧ i ≤ j ∧ j ≤ m ∧ Hid (Srt w0 B S ad vl s wr l')) (fun iv jv _ => (intOf jv).toNat - (intOf iv).toNat)
  case atStart => exact ⟨a, m, l, by go_num, by go_num, Nat.le_refl _, by omega, Nat.le_refl _, H⟩
  case round =>
    obtain ⟨w1, hw1⟩ : ∃ w1 : World, w1 = wr := ⟨_, rfl⟩
    rw [← hw1] at hrel ⊢
    clear hw1
    obtain ⟨i, j, l1, rfl, rfl, hmi, hij, hjb, HS⟩ := hrel
    rcases Nat.lt_or_ge i j with hlt | hge
    · go_wp2_with fail
      obtain ⟨h, hh⟩ : ∃ h : Nat, h = (i + j) / 2 := ⟨_, rfl⟩
      rw [show ((i : Int) + (j : Int)) / 2 = (h : Int) by omega]
      have hh1 : i ≤ h := by omega
      have hh2 : h < j := by omega
      clear hh
      obtain ⟨p, q, z, k1, k2, -, -, hz, -⟩ := HRd.out w1 l1 HS.out m h (by omega) (by omega)
      have HZ := Lib.hid hz
      clear hz
      rcases Int.lt_or_le z 0 with hz0 | hz0
      · have z2 : decide (z < 0) = true := decide_eq_true hz0
        go_quiet ((go_at_call 67; exact Calls.quiet_of (HZ.out _)))
        have HS2 := Lib.hid (HS.out.drew nq)
        go_wp2_with fail
        go_roundw
        case rel => exact ⟨i, h, l1, rfl, rfl, by omega, by omega, by omega, HS2⟩
        case measure => simp [intOf]; omega
      · have z2 : decide (z < 0) = false := decide_eq_false (by omega)
        go_quiet ((go_at_call 67; exact Calls.quiet_of (HZ.out _)))
        have HS2 := Lib.hid (HS.out.drew nq)
        go_wp2_with fail
        go_roundw
        case rel => exact ⟨h + 1, j, l1, by go_num, rfl, by omega, by omega, by omega, HS2⟩
        case measure => simp [intOf]; omega
    · obtain rfl : i = j := by omega
      go_wp2_with fail
      go_loopw [17] (fun kv wr => ∃ (k : Nat) (l' : List Nat), kv = .int .i64 k ∧ i ≤ k ∧ k ≤ m ∧ Hid (Srt w0 B S ad vl s wr l')) (fun kv _ => (intOf kv).toNat)
      case atStart => exact ⟨m, l1, rfl, by omega, Nat.le_refl _, HS⟩
      case round =>
        obtain ⟨w2, hw2⟩ : ∃ w2 : World, w2 = wr := ⟨_, rfl⟩
        rw [← hw2] at hrel ⊢
        clear hw2
        obtain ⟨k, l2, rfl, hki, hkm, HS2⟩ := hrel
        rcases Nat.lt_or_ge i k with hlt | hge2
        · have z3 : decide (i < k) = true := decide_eq_true hlt
          obtain ⟨x, hx⟩ : ∃ x, k = x + 1 := ⟨k - 1, by omega⟩
          subst hx
          obtain ⟨p, q, -, k1, k2, f1, f2, -, l3, h3⟩ := HRd.out w2 l2 HS2.out (x + 1) x (by omega) (by omega)
          have HS3 := Lib.hid h3
          have hkn : x + 1 < n := by omega
          clear h3
          go_wp2_with fail
          go_region
          have HS4 := Lib.hid HS3.out.drew1
          clear k1 k2 f1 f2
          go_wp2_with fail
          go_roundw
          case rel => exact ⟨x, l3, rfl, by omega, by omega, HS4⟩
          case measure => simp [intOf]
        · have z3 : decide (i < k) = false := decide_eq_false (by omega)
          go_wp2_with fail
          refine bodyPost_ret (results_none rfl _ _ _) rfl ?_
          exact ⟨rfl, l2, HS2.out⟩
end Go.Proofs.Ytcebafeaikipmaa.S15
