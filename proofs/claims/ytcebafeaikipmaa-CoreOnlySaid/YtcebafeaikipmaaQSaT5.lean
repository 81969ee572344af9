/- symMerge: some order of the learned clauses comes of another one. -/
import Derived.Test.YtcebafeaikipmaaQSaT4
namespace Go.Proofs.Ytcebafeaikipmaa.S15
open Go.RowKit

set_option maxRecDepth 100000 in
set_option maxHeartbeats 16000000 in
theorem symMerge3 {w0 : World} {B S : Nat} {ad : List Nat} {vl : Rl → Value} {s : St} {g n c : Nat} (hv : vl .ln = .slice (some ⟨g, 0, none⟩) n c) (hn : n = s.learned.length) (hn9 : n ≤ 1000000000) (hln : ∀ d ∈ s.learned, d < s.cls.length) {dd : Nat} {a m b : Nat} (ih : ∀ a m b : Nat, b - a ≤ dd → a < m → m < b → b ≤ n → ∀ (w : World) (l : List Nat), Srt w0 B S ad vl s w l → Calls Try.prog 71 #[.slice (some ⟨g, 0, none⟩) n c, .int .i64 a, .int .i64 m, .int .i64 b, .func (.func 67) #[] #[]] w fun e w' => e = .returned (.tuple #[]) ∧ ∃ l', Srt w0 B S ad vl s w' l') (hd : b - a ≤ dd + 1) (hone : ¬ m = a + 1) (htwo : ¬ b = m + 1) (ham : a < m) (hmb : m < b) (hbn : b ≤ n) {w : World} {l : List Nat} (h : Srt w0 B S ad vl s w l) :
    Calls Try.prog 71 #[.slice (some ⟨g, 0, none⟩) n c, .int .i64 a, .int .i64 m, .int .i64 b, .func (.func 67) #[] #[]] w fun e w' => e = .returned (.tuple #[]) ∧ ∃ l', Srt w0 B S ad vl s w' l' := by
  have H := Lib.hid h
  have HR := Lib.hid (fun (a m b : Nat) (ham : a < m) (hmb : m < b) (hb : b ≤ n) (w : World) (l : List Nat) (h : Srt w0 B S ad vl s w l) => rotate_any hv hn hn9 (.func (.func 67) #[] #[]) ham hmb hb h)
  have Hih := Lib.hid ih
  have hcf := cf44
  have hnc : n ≤ c := by
    have e := h.1.rows .ln
    rw [hv] at e
    exact e.len.2
  have HRd := Lib.hid (fun (w : World) (l : List Nat) (h : Srt w0 B S ad vl s w l) (i j : Nat) (hi : i < n) (hj : j < n) => show ∃ (p q : Nat) (z : Int), w.cell? ⟨g, i, none⟩ = some (.pointer (some ⟨p, 0, none⟩)) ∧ w.cell? ⟨g, j, none⟩ = some (.pointer (some ⟨q, 0, none⟩)) ∧ w.frozen? ⟨g, i, none⟩ = false ∧ w.frozen? ⟨g, j, none⟩ = false ∧
      (∀ k, Calls Try.prog 67 #[.pointer (some ⟨p, 0, none⟩), .pointer (some ⟨q, 0, none⟩)] (w.drewN k) fun e w' => e = .returned (.int .i64 z) ∧ ∃ n, w' = (w.drewN k).drewN n) ∧
      ∃ l', Srt w0 B S ad vl s ((w.setCell ⟨g, i, none⟩ (.pointer (some ⟨q, 0, none⟩))).setCell ⟨g, j, none⟩ (.pointer (some ⟨p, 0, none⟩))) l' by
    have hl : l.length = n := by rw [hn]; exact h.len
    obtain ⟨z, hz⟩ := Cmp_any (s := { s with learned := l }) h.1 (c := l[i]) (d := l[j]) (hln _ (h.2.2.mem_iff.1 (List.getElem_mem _))) (hln _ (h.2.2.mem_iff.1 (List.getElem_mem _)))
    exact ⟨ad.getD l[i] 0, ad.getD l[j] 0, z, h.cell hv (by omega), h.cell hv (by omega), h.frozen hv i, h.frozen hv j, hz, _, h.swap hv (i := i) (j := j) (by omega) (by omega)⟩)
  clear h hv hn hln ih
  have z1 : ((m : Int) - (a : Int) == 1) = false := beq_eq_false_iff_ne.2 (by omega)
  have z1b : ((b : Int) - (m : Int) == 1) = false := beq_eq_false_iff_ne.2 (by omega)
  clear hone htwo
  obtain ⟨mid, hmid⟩ : ∃ mid : Nat, mid = (a + b) / 2 := ⟨_, rfl⟩
  have hmd1 : 2 * mid ≤ a + b := by omega
  have hmd2 : a + b ≤ 2 * mid + 1 := by omega
  have hmdI : ((a : Int) + (b : Int)) / 2 = (mid : Int) := by omega
  have HmdI := Lib.hid hmdI
  clear hmid hmdI
  go_enter Try.func71, Try.ntmps71
  go_upto_if 140 with fail
  rw [HmdI.out]
  go_cut [20, 21] (fun v20 v21 wx => ∃ lo hi : Nat, v20 = .int .i64 lo ∧ v21 = .int .i64 hi ∧ a ≤ lo ∧ lo ≤ hi ∧ hi ≤ m + mid ∧ hi ≤ b ∧ m + mid ≤ b + lo ∧ mid + m ≤ n + lo ∧ hi < n + 1 ∧ Hid (Srt w0 B S ad vl s wx l))
  case first =>
    as_aux_lemma =>
      rcases Nat.lt_or_ge mid m with hmm | hmm
      · have z3 : decide (mid < m) = true := decide_eq_true hmm
        go_wp2_with fail
        go_meet
        case rel => exact ⟨mid + m - b, mid, by go_num, rfl, by omega, by omega, by omega, by omega, by omega, by omega, by omega, H⟩
      · have z3 : decide (mid < m) = false := decide_eq_false (by omega)
        go_wp2_with fail
        go_meet
        case rel => exact ⟨a, m, rfl, rfl, by omega, by omega, by omega, by omega, by omega, by omega, by omega, H⟩
  case rest =>
    as_aux_lemma =>
      obtain ⟨lo, hi, rfl, rfl, hl1, hl2, hl3, hl4, hl5, hl6, hl7, H9⟩ := hcut
      obtain ⟨w9, hw9⟩ : ∃ w9 : World, w9 = wc := ⟨_, rfl⟩
      rw [← hw9] at H9 ⊢
      clear hw9 H
      obtain ⟨P, hP⟩ : ∃ P, P = mid + m - 1 := ⟨_, rfl⟩
      have eP : (mid : Int) + (m : Int) - 1 = (P : Int) := by omega
      have EP := Lib.hid eP
      have hP1 : P + 1 = mid + m := by omega
      clear hP eP
      go_upto_region 33 with fail
      rw [EP.out]
      go_loopw [20, 21] (fun iv jv wr => ∃ (i j : Nat) (l' : List Nat), iv = .int .i64 i ∧ jv = .int .i64 j ∧ lo ≤ i ∧ i ≤ j ∧ j ≤ hi ∧ Hid (Srt w0 B S ad vl s wr l')) (fun iv jv _ => (intOf jv).toNat - (intOf iv).toNat)
      case atStart => exact ⟨lo, hi, l, rfl, rfl, Nat.le_refl _, by omega, Nat.le_refl _, H9⟩
      case round =>
        obtain ⟨w1, hw1⟩ : ∃ w1 : World, w1 = wr := ⟨_, rfl⟩
        rw [← hw1] at hrel ⊢
        clear hw1
        obtain ⟨i, j, l1, rfl, rfl, hmi, hij, hjb, HS⟩ := hrel
        rcases Nat.lt_or_ge i j with hlt | hge
        · go_wp2_with fail
          obtain ⟨h, hh⟩ : ∃ h : Nat, h = (i + j) / 2 := ⟨_, rfl⟩
          rw [show ((i : Int) + (j : Int)) / 2 = (h : Int) by omega]
          have hh1 : i ≤ h := by omega
          have hh2 : h < j := by omega
          clear hh
          obtain ⟨y, hy⟩ : ∃ y, y = P - h := ⟨_, rfl⟩
          have ey : (P : Int) - (h : Int) = (y : Int) := by omega
          have hyn : y < n := by omega
          clear hy
          obtain ⟨p, q, z, k1, k2, -, -, hz, -⟩ := HRd.out w1 l1 HS.out y h (by omega) (by omega)
          have HZ := Lib.hid hz
          clear hz
          rcases Int.lt_or_le z 0 with hz0 | hz0
          · as_aux_lemma =>
              have z2 : decide (z < 0) = true := decide_eq_true hz0
              go_quiet ((go_at_call 67; exact Calls.quiet_of (HZ.out _)))
              have HS2 := Lib.hid (HS.out.drew nq)
              go_wp2_with fail
              go_roundw
              case rel => exact ⟨i, h, l1, rfl, rfl, by omega, by omega, by omega, HS2⟩
              case measure => simp [intOf]; omega
          · as_aux_lemma =>
              have z2 : decide (z < 0) = false := decide_eq_false (by omega)
              go_quiet ((go_at_call 67; exact Calls.quiet_of (HZ.out _)))
              have HS2 := Lib.hid (HS.out.drew nq)
              go_wp2_with fail
              go_roundw
              case rel => exact ⟨h + 1, j, l1, by go_num, rfl, by omega, by omega, by omega, HS2⟩
              case measure => simp [intOf]; omega
        · obtain rfl : i = j := by omega
          obtain ⟨E, hE⟩ : ∃ E, E = mid + m - i := ⟨_, rfl⟩
          have eE : (mid : Int) + (m : Int) - (i : Int) = (E : Int) := by omega
          have EE := Lib.hid eE
          have hE1 : E + i = mid + m := by omega
          have hEb : E ≤ b := by omega
          clear hE eE
          go_upto_region 39 with fail
          rw [EE.out]
          go_cut [185] (fun v wx => ∃ bA : Bool, v = .bool bA ∧ (bA = true → i < m ∧ m < E) ∧ Hid (Srt w0 B S ad vl s wx l1))
          case first =>
            as_aux_lemma =>
              rcases Nat.lt_or_ge i m with h1 | h1
              · have zz : decide (i < m) = true := decide_eq_true h1
                go_wp2_with fail
                go_meet
                case rel => exact ⟨decide (m < E), rfl, fun h => ⟨h1, of_decide_eq_true h⟩, HS⟩
              · have zz : decide (i < m) = false := decide_eq_false (by omega)
                go_wp2_with fail
                go_meet
                case rel => exact ⟨false, rfl, fun h => by simp at h, HS⟩
          case rest =>
            as_aux_lemma =>
              obtain ⟨bA, rfl, hA, HS1⟩ := hcut
              go_upto_if 185 with fail
              go_cut [] (fun wx => ∃ l', Hid (Srt w0 B S ad vl s wx l'))
              case first =>
                as_aux_lemma =>
                  cases bA with
                  | true =>
                    obtain ⟨h1, h2⟩ := hA rfl
                    go_wp2_with (go_at_call 72; with_reducible refine (HR.out i m E h1 h2 (by omega) _ _ HS1.out).mono ?_; rintro e w8 ⟨rfl, l8, h8⟩; (have HS8 := Lib.hid h8; clear h8))
                    go_meet
                    case rel => exact ⟨l8, HS8⟩
                  | false =>
                    go_wp2_with fail
                    go_meet
                    case rel => exact ⟨l1, HS1⟩
              case rest =>
                as_aux_lemma =>
                  obtain ⟨l2, HS2⟩ := hcut
                  clear HS HS1 H9
                  go_upto_region 41 with fail
                  go_cut [199] (fun v wx => ∃ bB : Bool, v = .bool bB ∧ (bB = true → a < i ∧ i < mid) ∧ Hid (Srt w0 B S ad vl s wx l2))
                  case first =>
                    as_aux_lemma =>
                      rcases Nat.lt_or_ge a i with h1 | h1
                      · have zz : decide (a < i) = true := decide_eq_true h1
                        go_wp2_with fail
                        go_meet
                        case rel => exact ⟨decide (i < mid), rfl, fun h => ⟨h1, of_decide_eq_true h⟩, HS2⟩
                      · have zz : decide (a < i) = false := decide_eq_false (by omega)
                        go_wp2_with fail
                        go_meet
                        case rel => exact ⟨false, rfl, fun h => by simp at h, HS2⟩
                  case rest =>
                    as_aux_lemma =>
                      obtain ⟨bB, rfl, hB, HS3⟩ := hcut
                      go_upto_if 199 with fail
                      go_cut [] (fun wx => ∃ l', Hid (Srt w0 B S ad vl s wx l'))
                      case first =>
                        as_aux_lemma =>
                          cases bB with
                          | true =>
                            obtain ⟨h1, h2⟩ := hB rfl
                            go_wp2_with (go_at_call 71; with_reducible refine (Hih.out a i mid (by omega) h1 h2 (by omega) _ _ HS3.out).mono ?_; rintro e w8 ⟨rfl, l8, h8⟩; (have HS8 := Lib.hid h8; clear h8))
                            go_meet
                            case rel => exact ⟨l8, HS8⟩
                          | false =>
                            go_wp2_with fail
                            go_meet
                            case rel => exact ⟨l2, HS3⟩
                      case rest =>
                        as_aux_lemma =>
                          obtain ⟨l4, HS4⟩ := hcut
                          clear HS2 HS3
                          rcases Nat.lt_or_ge mid E with h1 | h1
                          · have zz : decide (mid < E) = true := decide_eq_true h1
                            rcases Nat.lt_or_ge E b with h2 | h2
                            · have zy : decide (E < b) = true := decide_eq_true h2
                              go_wp2_with (go_at_call 71; with_reducible refine (Hih.out mid E b (by omega) h1 h2 (by omega) _ _ HS4.out).mono ?_; rintro e w8 ⟨rfl, l8, h8⟩; (have HS8 := Lib.hid h8; clear h8))
                              go_end0
                              exact ⟨rfl, l8, HS8.out⟩
                            · have zy : decide (E < b) = false := decide_eq_false (by omega)
                              go_wp2_with fail
                              go_end0
                              exact ⟨rfl, l4, HS4.out⟩
                          · have zz : decide (mid < E) = false := decide_eq_false (by omega)
                            go_wp2_with fail
                            go_end0
                            exact ⟨rfl, l4, HS4.out⟩
theorem symMerge_any {w0 : World} {B S : Nat} {ad : List Nat} {vl : Rl → Value} {s : St} {g n c : Nat} (hv : vl .ln = .slice (some ⟨g, 0, none⟩) n c) (hn : n = s.learned.length) (hn9 : n ≤ 1000000000) (hln : ∀ d ∈ s.learned, d < s.cls.length) :
    ∀ (dd a m b : Nat), b - a ≤ dd → a < m → m < b → b ≤ n → ∀ (w : World) (l : List Nat), Srt w0 B S ad vl s w l → Calls Try.prog 71 #[.slice (some ⟨g, 0, none⟩) n c, .int .i64 a, .int .i64 m, .int .i64 b, .func (.func 67) #[] #[]] w fun e w' => e = .returned (.tuple #[]) ∧ ∃ l', Srt w0 B S ad vl s w' l' := by
  intro dd
  induction dd with
  | zero => intro a m b h1 h2 h3; omega
  | succ dd ih =>
    intro a m b hd ham hmb hbn w l h
    by_cases hone : m = a + 1
    · exact symMerge1 hv hn hn9 hln hone ham hmb hbn h
    · by_cases htwo : b = m + 1
      · exact symMerge2 hv hn hn9 hln hone htwo ham hmb hbn h
      · exact symMerge3 hv hn hn9 hln ih hd hone htwo ham hmb hbn h
end Go.Proofs.Ytcebafeaikipmaa.S15
