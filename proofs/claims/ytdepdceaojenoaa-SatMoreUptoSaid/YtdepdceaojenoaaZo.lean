/- What True and Holds of the reference compute. / right: an answer that is right is found so. / Which questions may be: what the reference computes. / .. -/
import Derived.Test.YtdepdceaojenoaaZa
import Derived.Test.YtdepdceaojenoaaZk
import Derived.Test.YtdepdceaojenoaaZm
namespace Go.Proofs.Ytdepdceaojenoaa
open Go.RowKit

set_option maxHeartbeats 400000 in
theorem True_any (s : Value) (n : Int) (t : List Bool) (w : World) {B : Nat} (hs : RBools w (Lt B) s t) :
    Calls Try.prog 22 #[.int .i64 n, s] w fun e w' => e = .returned (.bool (litTrue t n)) ∧ w = w' := by
  obtain ⟨A, c, rfl, hm, hat⟩ := hs.open_
  have Hat := Lib.hid hat; clear hat
  go_enter Try.func22, Try.ntmps22
  go_wp2
  go_loop [9] (fun sv => ∃ k : Nat, k ≤ (t).length ∧ sv = .int .i64 k ∧ Hid (¬ (1 ≤ n ∧ n ≤ k) ∧ ¬ (-(k : Int) ≤ n ∧ n ≤ -1))) (fun sv => (t).length - (intOf sv).toNat)
  case atStart => exact ⟨0, Nat.zero_le _, rfl, (by constructor <;> omega)⟩
  case round =>
    obtain ⟨k, hkle, rfl, hkinv⟩ := hrel
    by_cases hklt : k < (t).length
    · obtain ⟨bk, offk, uk, rfl, hbk, hcellk, huk⟩ := Hat.out.lt_ hklt
      obtain rfl := huk
      by_cases h1 : n = (k : Int) + 1
      · have Hv := Lib.hid (litTrue_pos hklt h1)
        have h1' : (n == (k : Int) + 1) = true := by simp [h1]
        clear h1
        go_wp2
        go_ret
        exact ⟨ret_bool Hv.out.symm, rfl⟩
      have h1' : (n == (k : Int) + 1) = false := by simp [h1]
      by_cases h2 : n = -((k : Int) + 1)
      · have Hv := Lib.hid (litTrue_neg hklt h2)
        have h2' : (n == -((k : Int) + 1)) = true := by simp [h2]
        clear h1 h2
        go_wp2
        go_ret
        exact ⟨ret_bool Hv.out.symm, rfl⟩
      have h2' : (n == -((k : Int) + 1)) = false := by simp [h2]
      have Hn := Lib.hid (show ¬ (1 ≤ n ∧ n ≤ (k + 1 : Nat)) ∧ ¬ (-((k + 1 : Nat) : Int) ≤ n ∧ n ≤ -1) by have := hkinv.out; constructor <;> omega)
      clear h1 h2
      go_wp2
      go_round
      case rel => exact ⟨k + 1, by omega, by go_num, Hn⟩
      case measure => simp [intOf]; omega
    · obtain rfl : k = (t).length := by omega
      have Hv := Lib.hid (litTrue_none hkinv.out.1 hkinv.out.2)
      clear hkinv
      go_wp2
      go_ret
      exact ⟨ret_bool Hv.out.symm, rfl⟩
set_option maxHeartbeats 1000000 in
theorem Holds_any (s s2 : Value) (cls : List (List Int)) (t : List Bool) (w : World) {B : Nat} (hs : RIntss w (Lt B) s cls) (hs2 : RBools w (Lt B) s2 t) :
    Calls Try.prog 16 #[s, s2] w fun e w' => e = .returned (.int .i64 (holdsI cls t)) ∧ w = w' := by
  obtain ⟨A, c, rfl, hm, hat⟩ := hs.open_
  have Hat := Lib.hid hat; clear hat
  have Hs2 := Lib.hid hs2; clear hs2
  go_enter Try.func16, Try.ntmps16
  go_wp2
  go_loop [12] (fun sv => ∃ k : Nat, k ≤ (cls).length ∧ sv = .int .i64 k ∧ Hid ((cls.take k).any (fun c => !clauseTrue t c) = false)) (fun sv => (cls).length - (intOf sv).toNat)
  case atStart => exact ⟨0, Nat.zero_le _, rfl, hid_nil_any _ _⟩
  case round =>
    obtain ⟨k, hkle, rfl, hkinv⟩ := hrel
    by_cases hklt : k < (cls).length
    · obtain ⟨bk, offk, uk, rfl, hbk, hcellk, huk⟩ := Hat.out.lt_ hklt
      obtain ⟨A2, c2, rfl, hm2, hat2⟩ := huk.open_
      have Hat2 := Lib.hid hat2; clear hat2
      go_wp2
      go_loop [19, 7] (fun sv ok => ∃ j : Nat, j ≤ (cls[k]).length ∧ sv = .int .i64 j ∧ ok = .bool (clauseTrue t (cls[k].take j))) (fun sv _ => (cls[k]).length - (intOf sv).toNat)
      case atStart => exact ⟨0, Nat.zero_le _, rfl, rfl⟩
      case round =>
        obtain ⟨j, hjle, rfl, hjinv⟩ := hrel
        by_cases hjlt : j < (cls[k]).length
        · obtain ⟨bj, offj, uj, rfl, hbj, hcellj, huj⟩ := Hat2.out.lt_ hjlt
          obtain rfl := huj
          obtain rfl := hjinv
          cases hany : clauseTrue t (cls[k].take j) with
          | true =>
            have Hany := Lib.hid (show Value.bool true = .bool (clauseTrue t (cls[k].take (j + 1))) by rw [clauseTrue_succ hjlt, hany]; rfl)
            clear hany
            go_wp2
            go_round
            case rel => exact ⟨j + 1, by omega, by go_num, Hany.out⟩
            case measure => simp [intOf]; omega
          | false =>
            have Hany := Lib.hid (show Value.bool (litTrue t cls[k][j]) = .bool (clauseTrue t (cls[k].take (j + 1))) by rw [clauseTrue_succ hjlt, hany]; rfl)
            clear hany
            go_wp2_with (go_at_call 22; refine (True_any _ _ t _ Hs2.out).mono ?_; rintro e w1 ⟨rfl, rfl⟩)
            go_round
            case rel => exact ⟨j + 1, by omega, by go_num, Hany.out⟩
            case measure => simp [intOf]; omega
        · obtain rfl : j = (cls[k]).length := by omega
          obtain rfl := hjinv
          rw [List.take_length]
          cases hany : clauseTrue t cls[k] with
          | true =>
            have Hany := Lib.hid hany; clear hany
            go_wp2
            go_round
            case rel => exact ⟨k + 1, by omega, by go_num, (hid_any_succ hklt hkinv (by rw [Hany.out]; rfl))⟩
            case measure => simp [intOf]; omega
          | false =>
            have Hi := Lib.hid (findIdx_some_of (p := fun c => !clauseTrue t c) hklt hkinv (by simp [hany]))
            clear hany
            go_wp2
            go_ret
            exact ⟨ret_int (by rw [holdsI, Hi.out]), rfl⟩
    · obtain rfl : k = (cls).length := by omega
      go_wp2
      go_ret
      exact ⟨ret_int (by rw [holdsI, findIdx_none_of hkinv]), rfl⟩
end Go.Proofs.Ytdepdceaojenoaa

namespace Go.Proofs.Ytdepdceaojenoaa
open Go.RowKit

theorem trueL_lit {t : List Bool} {m : Int} (h0 : m ≠ 0) (h : trueL t m = true) : litTrue t m = true := by
  unfold trueL at h
  unfold litTrue
  split at h
  · rename_i h1; rw [if_pos h1]; exact h
  · rename_i h1; rw [if_neg h1, if_pos (by omega)]; exact h
theorem holds_of {cs : List (List Int)} {t : List Bool} (hcs : ∀ C ∈ cs, ∀ m ∈ C, m ≠ 0) (h : ∀ C ∈ cs, ∃ m ∈ C, trueL t m = true) : holdsI cs t = -1 := by
  unfold holdsI
  have : cs.findIdx? (fun c => !clauseTrue t c) = none := by
    rw [List.findIdx?_eq_none_iff]
    intro C hC
    obtain ⟨m, hm, hm2⟩ := h C hC
    have : clauseTrue t C = true := by
      unfold clauseTrue
      rw [List.any_eq_true]
      exact ⟨m, hm, trueL_lit (hcs C hC m hm) hm2⟩
    rw [this]; rfl
  rw [this]
/-- how many clauses are empty -/
theorem empties {p p' : List (List Int)} (he : p = p' ++ [[]]) (hn : ∀ C ∈ p', C ≠ []) {k : Nat} (hk : k < p.length) : (p[k].length = 0 ↔ k + 1 = p.length) := by
  subst he
  rw [List.length_append, List.length_singleton] at hk ⊢
  rcases Nat.lt_or_ge k p'.length with h | h
  · rw [List.getElem_append_left h]
    have := hn _ (List.getElem_mem h)
    constructor
    · exact fun e => (this (List.eq_nil_of_length_eq_zero e)).elim
    · omega
  · have : k = p'.length := by omega
    subst this
    simp
set_option maxRecDepth 100000 in
set_option maxHeartbeats 8000000 in
theorem right_any {w : World} {n most : Nat} {s v : Value} {cs : List (List Int)} {a : SAns} (hs : RIntss w (Lt w.heap.size) s cs) (hv : AnsV w (Lt w.heap.size) v a) (hm : satMayN n cs = 0) (hmost : most ≤ 2000000) (ha : AnsOk cs n most a) (hp : AnsPb n most a) :
    Calls Try.prog 15 #[.agg #[.int .i64 (n : Int), s], v] w fun e w' => e = .returned (.bool true) ∧ Below w.heap.size w w' := by
  obtain ⟨f1, f2, f3, f4⟩ := may_facts hm
  obtain ⟨A, c, hse, hlm, -⟩ := hs.open_
  have Hs := Lib.hid hs
  subst hse
  cases a with
  | opn k =>
    obtain rfl : v = _ := hv
    clear ha hp
    go_enter Try.func15, Try.ntmps15
    go_wp2_with fail
    go_ret
    exact ⟨rfl, (below_alloc _ _).trans ((below_alloc _ _).mono (by simp))⟩
  | sat t k =>
    obtain ⟨tv, rfl, ht⟩ := hv
    obtain ⟨h1, h2, h3⟩ := ha
    obtain ⟨AT, cT, hte, hlt, -⟩ := ht.open_
    have Ht := Lib.hid ht
    subst hte
    have H3 := Lib.hid (holds_of (fun C hC m hm => (f4 C hC m hm).1) h3)
    obtain ⟨N, hN⟩ : ∃ N, N = t.length := ⟨_, rfl⟩
    have HN := Lib.hid hN
    rw [← hN] at h2 hlt ⊢
    subst h2
    obtain ⟨K, hK⟩ : ∃ K, K = cs.length := ⟨_, rfl⟩
    have HK := Lib.hid hK
    rw [← hK]
    obtain ⟨w2, hw2⟩ : ∃ w2, w2 = (w.alloc (.cells #[.int .i64 (N : Int), .slice A K c] 24)).alloc (.cells #[.int .i64 1, .slice AT N cT, .slice none 0 0, .int .i64 (k : Int)] 33) := ⟨_, rfl⟩
    have Hw2 := Lib.hid hw2
    have HB2 := Lib.hid (show Below w.heap.size w w2 by rw [hw2]; exact (below_alloc _ _).trans ((below_alloc _ _).mono (by simp)))
    have HH := Lib.hid (Holds_any (.slice A K c) (.slice AT N cT) cs t w2 (RIntss.stable.up (by rw [HK.out]; exact Hs.out) HB2.out) (RBools.stable.up (by rw [HN.out]; exact Ht.out) HB2.out))
    rw [H3.out] at HH
    rw [hw2] at HH
    clear h1 h3 ht hs hw2 hK hN hp hm f3 f4
    go_enter Try.func15, Try.ntmps15
    go_wp2_with (go_at_call 16; with_reducible refine HH.out.mono ?_; rintro e w3 ⟨rfl, rfl⟩)
    go_ret
    rw [← Hw2.out]
    exact ⟨rfl, HB2.out⟩
  | unsat p k =>
    obtain ⟨pv, rfl, hpr⟩ := hv
    obtain ⟨h1, p', h2, h3, h4⟩ := ha
    obtain ⟨hp1, hp2⟩ := hp
    obtain ⟨AP, cP, hpe, hlp, hpat⟩ := hpr.open_
    have Hpr := Lib.hid hpr
    have Hpat := Lib.hid hpat
    subst hpe
    have HE := Lib.hid (fun (k : Nat) (hk : k < p.length) => empties h2 h4 hk)
    have hp9 : 1 ≤ p.length := by rw [h2]; simp
    obtain ⟨N, hN⟩ : ∃ N, N = p.length := ⟨_, rfl⟩
    have HN := Lib.hid hN
    rw [← hN] at hlp hp9 hp2 ⊢
    obtain ⟨K, hK⟩ : ∃ K, K = cs.length := ⟨_, rfl⟩
    have HK := Lib.hid hK
    rw [← hK]
    obtain ⟨w2, hw2⟩ : ∃ w2, w2 = (w.alloc (.cells #[.int .i64 (n : Int), .slice A K c] 24)).alloc (.cells #[.int .i64 2, .slice none 0 0, .slice AP N cP, .int .i64 (k : Int)] 33) := ⟨_, rfl⟩
    have Hw2 := Lib.hid hw2
    have HB2 := Lib.hid (show Below w.heap.size w w2 by rw [hw2]; exact (below_alloc _ _).trans ((below_alloc _ _).mono (by simp)))
    have HC := Lib.hid (Check_any (w := w2) (s := .slice A K c) (pv := .slice AP N cP) (M := n) (RIntss.stable.up (by rw [HK.out]; exact Hs.out) HB2.out) (RIntss.stable.up (by rw [HN.out]; exact Hpr.out) HB2.out) (by omega) (fun C hC m hm => (f4 C hC m hm).2) hp1 (by omega) (by rw [← hN]; omega) h3 h2)
    have HX := Lib.hid (show w2.heap[w.heap.size]? = some (.cells #[.int .i64 (n : Int), .slice A K c] 24 (0, 0)) ∧ w2.heap[w.heap.size + 1]? = some (.cells #[.int .i64 2, .slice none 0 0, .slice AP N cP, .int .i64 (k : Int)] 33 (0, 0)) by
      rw [hw2]; exact ⟨heap_at_alloc (heap_new rfl), heap_new (by simp)⟩)
    have q1 := cell_of_row _ _ 1 _ _ (0, 0) HX.out.1
    have q11 := cell_of_row _ _ 1 _ _ (0, 0) HX.out.2
    have q12 := cell_of_row _ _ 2 _ _ (0, 0) HX.out.2
    have Hag := Lib.hid (ag_of_below HB2.out)
    clear h1 h2 h3 h4 hpr hpat hs hw2 hK hN hm f3 f4 hp1
    obtain ⟨B0, hB0⟩ : ∃ B0, B0 = w.heap.size := ⟨_, rfl⟩
    have HB0 := Lib.hid hB0
    rw [← hB0] at HB2 HX q1 q11 q12 ⊢
    clear hB0
    go_enter Try.func15, Try.ntmps15
    go_wp2_with fail
    rw [← Hw2.out, ← HB0.out]
    go_loop [37, 5] (fun iv nv => ∃ i : Nat, i ≤ N ∧ iv = .int .i64 i ∧ nv = .int .i64 ((if i = N then 1 else 0 : Nat) : Int)) (fun iv _ => N - (intOf iv).toNat)
    case atStart => exact ⟨0, Nat.zero_le _, rfl, by rw [if_neg (by omega)]; rfl⟩
    case round =>
      obtain ⟨i, hiN, rfl, rfl⟩ := hrel
      rcases Nat.lt_or_ge i N with hi | hi
      · have hi2 : i < p.length := by rw [← HN.out]; exact hi
        obtain ⟨b, off, u, rfl, hb, hu, hR⟩ := Hpat.out.at_ RInts.stable Hag.out hi2
        obtain ⟨Au, cu, rfl, -⟩ := hR.open_
        have he := HE.out i hi2
        obtain ⟨L, hL⟩ : ∃ L, L = p[i].length := ⟨_, rfl⟩
        rw [← hL, ← HN.out] at he
        rw [← hL] at hu
        have He := Lib.hid he
        rw [if_neg (by omega)]
        clear hL hR hb hi2 he
        by_cases h1 : i + 1 = N
        · have z1 : ((L : Int) == 0) = true := by rw [He.out.2 h1]; rfl
          have H1 := Lib.hid h1
          clear h1
          go_wp2_with fail
          go_round
          case rel => exact ⟨i + 1, by omega, by go_num, by rw [if_pos H1.out]; rfl⟩
          case measure => simp [intOf]; omega
        · have z1 : ((L : Int) == 0) = false := beq_eq_false_iff_ne.2 (fun e => h1 (He.out.1 (by omega)))
          have H1 := Lib.hid h1
          clear h1
          go_wp2_with fail
          go_round
          case rel => exact ⟨i + 1, by omega, by go_num, by rw [if_neg H1.out]⟩
          case measure => simp [intOf]; omega
      · obtain rfl : i = N := by omega
        rw [if_pos rfl]
        go_wp2_with (go_at_call 21; with_reducible refine HC.out.mono ?_; rintro e w3 ⟨rfl, b3⟩; go_loud (have HB3 := Lib.hid (HB2.out.trans (b3.mono (by have := HB2.out.size; rw [← HB0.out] at this; exact this)))))
        go_ret
        exact ⟨rfl, HB3.out⟩
end Go.Proofs.Ytdepdceaojenoaa

namespace Go.Proofs.Ytdepdceaojenoaa
open Go.RowKit

theorem or_any_succ {α : Type} {b : Bool} {p : α → Bool} {l : List α} {k : Nat} (h : k < l.length) : (b || (l.take (k + 1)).any p) = ((b || (l.take k).any p) || p l[k]) := by
  rw [any_take_succ _ _ _ h, Bool.or_assoc]
theorem refMayN {v : Int} {cls : List (List Int)} (h1 : ¬ (1024 < v ∨ 16384 < cls.length)) (h2 : cls.any (fun c => decide (2048 < c.length)) = false) : satMayN v cls = if (decide (v < 0) || cls.any (fun c => c.any (badLit v))) then 1 else 0 := by
  unfold satMayN
  rw [if_neg h1, h2]
  by_cases h3 : v < 0
  · simp [h3]
  · simp [h3]
set_option maxRecDepth 100000 in
set_option maxHeartbeats 2000000 in
theorem refSatMay_any (v : Int) (s : Value) (cls : List (List Int)) (w : World) (hs : RIntss w (Lt w.heap.size) s cls) :
    Calls Try.prog 10 #[.agg #[.int .i64 v, s]] w fun e w' => e = .returned (.int .i64 (satMayN v cls : Nat)) ∧ Below w.heap.size w w' := by
  obtain ⟨A, c, rfl, hm, hat⟩ := hs.open_
  have hb : Below w.heap.size w (w.alloc (.cells #[.int .i64 v, .slice A cls.length c] 24)) := (Below.refl _ _).alloc (Nat.le_refl _) _
  have Hb := Lib.hid hb; clear hb
  have Hat := Lib.hid hat; clear hat
  by_cases h1 : 1024 < v
  · have Hd := Lib.hid (show (2 : Int) = (satMayN v cls : Nat) by simp [satMayN, h1])
    go_enter Try.func10, Try.ntmps10
    go_wp2
    go_ret
    exact ⟨ret_int Hd.out, Hb.out⟩
  by_cases h2 : 16384 < cls.length
  · have Hd := Lib.hid (show (2 : Int) = (satMayN v cls : Nat) by simp [satMayN, h2])
    go_enter Try.func10, Try.ntmps10
    go_wp2
    go_ret
    exact ⟨ret_int Hd.out, Hb.out⟩
  have H12 := Lib.hid (show ¬ (1024 < v ∨ 16384 < cls.length) by omega)
  obtain ⟨b0, hb0⟩ : ∃ b0, b0 = decide (v < 0) := ⟨_, rfl⟩
  have Hb0 := Lib.hid hb0
  have hb1 : v < 0 → b0 = true := fun h => by rw [hb0]; simpa using h
  have hbb : decide (v < 0) = b0 := hb0.symm
  have Hb1 := Lib.hid hb1
  clear hb0 hb1
  go_enter Try.func10, Try.ntmps10
  go_wp2
  go_loop [23, 3] (fun sv bv => ∃ k : Nat, k ≤ cls.length ∧ sv = .int .i64 k ∧ (∃ b, bv = .bool b ∧ Hid (b = (b0 || (cls.take k).any (fun c => c.any (badLit v))))) ∧ Hid ((cls.take k).any (fun c => decide (2048 < c.length)) = false)) (fun sv _ => cls.length - (intOf sv).toNat)
  case atStart => exact ⟨0, Nat.zero_le _, rfl, ⟨_, by first | rfl | (rw [hbb]), by simp [Hid]⟩, hid_nil_any _ _⟩
  case round =>
    obtain ⟨k, hkle, rfl, ⟨b, rfl, hbinv⟩, hkinv⟩ := hrel
    by_cases hklt : k < cls.length
    · obtain ⟨bk, offk, uk, rfl, hbk, hcellk, huk⟩ := Hat.out.lt_ hklt
      obtain ⟨A2, c2, rfl, hm2, hat2⟩ := huk.open_
      have Hat2 := Lib.hid hat2; clear hat2 huk
      by_cases h3 : 2048 < cls[k].length
      · have Hd := Lib.hid (show (2 : Int) = (satMayN v cls : Nat) by
          have hbig : cls.any (fun c => decide (2048 < c.length)) = true := any_at (h := hklt) (by simpa using h3)
          unfold satMayN; rw [if_neg H12.out, hbig]; rfl)
        go_wp2
        go_ret
        exact ⟨ret_int Hd.out, Hb.out⟩
      · have Hs3 := Lib.hid (or_any_succ (b := b0) (p := fun c : List Int => c.any (badLit v)) hklt)
        have Hk2 := Lib.hid (hid_any_succ hklt hkinv (by simpa using h3))
        go_wp2
        go_loop [32, 3] (fun sv bv => ∃ q : Nat, q ≤ cls[k].length ∧ sv = .int .i64 q ∧ ∃ b', bv = .bool b' ∧ Hid (b' = (b || (cls[k].take q).any (badLit v)))) (fun sv _ => cls[k].length - (intOf sv).toNat)
        case atStart => exact ⟨0, Nat.zero_le _, rfl, b, rfl, by simp [Hid]⟩
        case round =>
          obtain ⟨q, hqle, rfl, b', rfl, hqinv⟩ := hrel
          by_cases hqlt : q < cls[k].length
          · obtain ⟨bq, offq, uq, rfl, hbq, hcellq, huq⟩ := Hat2.out.lt_ hqlt
            obtain rfl := huq
            have Hs4 := Lib.hid (or_any_succ (b := b) (p := badLit v) hqlt)
            cases b' with
            | true =>
              go_wp2
              go_round
              case rel => exact ⟨q + 1, by omega, by go_num, _, rfl, by rw [Hid, Hs4.out, ← hqinv.out]; rfl⟩
              case measure => simp [intOf]; omega
            | false =>
              have hv0 : ¬ v < 0 := fun h => by
                have := Hb1.out h
                have h5 := hbinv.out
                have h6 := hqinv.out
                rw [this] at h5
                rw [h5] at h6
                simp at h6
              have hv1 : 0 ≤ v := by omega
              obtain ⟨x, hx⟩ : ∃ x, x = cls[k][q] := ⟨_, rfl⟩
              rw [← hx] at hcellq Hs4
              have Hbl := Lib.hid (show badLit v x = (x == 0 || decide (v < x) || decide (x < -v)) from rfl)
              by_cases hx0 : x = 0
              · have e0 : (x == 0) = true := by simp [hx0]
                have Hn := Lib.hid (show true = badLit v x by rw [Hbl.out, e0]; rfl)
                clear hx hx0 hv0
                go_wp2
                go_round
                case rel => exact ⟨q + 1, by omega, by go_num, true, rfl, by rw [Hid, Hs4.out, ← hqinv.out]; exact Hn.out⟩
                case measure => simp [intOf]; omega
              have e0 : (x == 0) = false := by simp [hx0]
              by_cases hx1 : v < x
              · have Hn := Lib.hid (show true = badLit v x by rw [Hbl.out]; simp [hx1])
                clear hx hx0 hv0
                go_wp2
                go_round
                case rel => exact ⟨q + 1, by omega, by go_num, true, rfl, by rw [Hid, Hs4.out, ← hqinv.out]; exact Hn.out⟩
                case measure => simp [intOf]; omega
              by_cases hx2 : x < -v
              · have Hn := Lib.hid (show true = badLit v x by rw [Hbl.out]; simp [hx2])
                clear hx hx0 hv0
                go_wp2
                go_round
                case rel => exact ⟨q + 1, by omega, by go_num, true, rfl, by rw [Hid, Hs4.out, ← hqinv.out]; exact Hn.out⟩
                case measure => simp [intOf]; omega
              · have Hn := Lib.hid (show false = badLit v x by rw [Hbl.out, e0]; simp; omega)
                clear hx hx0 hv0
                go_wp2
                go_round
                case rel => exact ⟨q + 1, by omega, by go_num, false, rfl, by rw [Hid, Hs4.out, ← hqinv.out]; exact Hn.out⟩
                case measure => simp [intOf]; omega
          · obtain rfl : q = cls[k].length := by omega
            rw [List.take_length] at hqinv
            go_wp2
            go_round
            case rel => exact ⟨k + 1, by omega, by go_num, ⟨_, rfl, by rw [Hid, Hs3.out, ← hbinv.out]; exact hqinv.out⟩, Hk2.out⟩
            case measure => simp [intOf]; omega
    · obtain rfl : k = cls.length := by omega
      have Hr := Lib.hid (refMayN H12.out (hid_any_end hkinv))
      rw [List.take_length] at hbinv
      have Hbr := Lib.hid (show (decide (v < 0) || cls.any (fun c => c.any (badLit v))) = b by rw [hbb]; exact hbinv.out.symm)
      cases b with
      | true =>
        go_wp2
        go_ret
        exact ⟨ret_int (by rw [Hr.out, Hbr.out]; rfl), Hb.out⟩
      | false =>
        go_wp2
        go_ret
        exact ⟨ret_int (by rw [Hr.out, Hbr.out]; rfl), Hb.out⟩
end Go.Proofs.Ytdepdceaojenoaa

namespace Go.Proofs.Ytdepdceaojenoaa
open Go.RowKit

def lightQ (v : Int) (C : List (List Int)) : Bool := decide (v ≤ 100) && decide (C.length ≤ 200) && C.all fun c => decide (c.length ≤ 30)
set_option maxHeartbeats 1000000 in
theorem light_any (v : Int) (s : Value) (C : List (List Int)) (w : World) (hs : RIntss w (Lt w.heap.size) s C) :
    Calls Try.prog 13 #[.agg #[.int .i64 v, s]] w fun e w' => e = .returned (.bool (lightQ v C)) ∧ Below w.heap.size w w' := by
  obtain ⟨A, c, rfl, hm, hat⟩ := hs.open_
  have hb : Below w.heap.size w (w.alloc (.cells #[.int .i64 v, .slice A C.length c] 24)) := (Below.refl _ _).alloc (Nat.le_refl _) _
  have Hb := Lib.hid hb; clear hb
  have Hat := Lib.hid hat; clear hat
  by_cases h1 : 100 < v
  · have Hd := Lib.hid (show lightQ v C = false by simp [lightQ]; omega)
    go_enter Try.func13, Try.ntmps13
    go_wp2
    go_ret
    exact ⟨ret_bool Hd.out.symm, Hb.out⟩
  by_cases h2 : 200 < C.length
  · have Hd := Lib.hid (show lightQ v C = false by simp [lightQ]; omega)
    go_enter Try.func13, Try.ntmps13
    go_wp2
    go_ret
    exact ⟨ret_bool Hd.out.symm, Hb.out⟩
  go_enter Try.func13, Try.ntmps13
  go_wp2
  go_loop [17] (fun sv => ∃ k : Nat, k ≤ (C).length ∧ sv = .int .i64 k ∧ Hid ((C.take k).all (fun c => decide (c.length ≤ 30)) = true)) (fun sv => (C).length - (intOf sv).toNat)
  case atStart => exact ⟨0, Nat.zero_le _, rfl, rfl⟩
  case round =>
    obtain ⟨k, hkle, rfl, hkinv⟩ := hrel
    by_cases hklt : k < (C).length
    · obtain ⟨bk, offk, uk, rfl, hbk, hcellk, huk⟩ := Hat.out.lt_ hklt
      obtain ⟨A2, c2, rfl, hm2, hat2⟩ := huk.open_
      clear hat2 huk
      by_cases h3 : 30 < C[k].length
      · have Hd := Lib.hid (show lightQ v C = false by unfold lightQ; rw [all_at (h := hklt) (by simp; omega)]; simp)
        go_wp2
        go_ret
        exact ⟨ret_bool Hd.out.symm, Hb.out⟩
      · go_wp2
        go_round
        case rel => exact ⟨k + 1, by omega, by go_num, (by rw [Hid, all_take_succ _ _ _ hklt, hkinv.out]; simp; omega)⟩
        case measure => simp [intOf]; omega
    · obtain rfl : k = (C).length := by omega
      rw [List.take_length] at hkinv
      have Hd := Lib.hid (show lightQ v C = true by unfold lightQ; rw [hkinv.out]; simp; omega)
      go_wp2
      go_ret
      exact ⟨ret_bool Hd.out.symm, Hb.out⟩
/-- what a law is told of an answer -/
structure AnsAll (cs : List (List Int)) (n most : Nat) (w : World) (T : Nat → Prop) (v : Value) (a : SAns) : Prop where
  sr : SolveR cs n most a
  rd : AnsV w T v a
  ok : AnsOk cs n most a
  pb : AnsPb n most a
theorem solve_law {w : World} {n most : Nat} {s : Value} {cs : List (List Int)} (hs : RIntss w (Lt w.heap.size) s cs) (hm : satMayN n cs = 0) (hmost : most ≤ 2000000) (hF : 200 < most → ∀ B S, ForgetOk B S) :
    Calls Try.prog 12 #[.agg #[.int .i64 (n : Int), s], .int .i64 (most : Int)] w fun e w' => ∃ (a : SAns) (ev kv : Int) (A1 A2 : Option Addr) (n1 c1 n2 c2 : Nat), e = .returned (.tuple #[.agg #[.int .i64 ev, .slice A1 n1 c1, .slice A2 n2 c2, .int .i64 kv], .int .i64 0]) ∧
      AnsAll cs n most w' (fun b => w.heap.size ≤ b ∧ b < w'.heap.size) (.agg #[.int .i64 ev, .slice A1 n1 c1, .slice A2 n2 c2, .int .i64 kv]) a ∧ Below w.heap.size w w' := by
  obtain ⟨f1, f2, f3, f4⟩ := may_facts hm
  refine (solve_any hs hm hmost hF).mono ?_
  rintro e w' ⟨a, v, hr, rfl, hv, hb⟩
  obtain ⟨ev, kv, A1, A2, n1, c1, n2, c2, rfl⟩ := ansV_form hv
  exact ⟨a, ev, kv, A1, A2, n1, c1, n2, c2, rfl, ⟨hr, hv, hr.ok f4 (by omega) f2, hr.pb f4 (by omega) f2⟩, hb⟩
theorem AnsAll.nums {cs : List (List Int)} {n most : Nat} {w : World} {T : Nat → Prop} {ev kv : Int} {x y : Value} {a : SAns} (h : AnsAll cs n most w T (.agg #[.int .i64 ev, x, y, .int .i64 kv]) a) :
    0 ≤ kv ∧ kv ≤ most + 1 ∧ ((ev == 3) = (kv == (most : Int) + 1)) ∧ (ev == 3) = (match a with | .opn _ => true | _ => false) ∧ (ev == 1) = (match a with | .sat _ _ => true | _ => false) ∧ (ev == 2) = (match a with | .unsat _ _ => true | _ => false) := by
  have h1 := h.rd
  have h2 := h.ok
  cases a with
  | opn k =>
    injection h1 with e
    simp only [Array.mk.injEq, List.cons.injEq, Value.int.injEq, true_and, and_true] at e
    obtain ⟨rfl, -, -, rfl⟩ := e
    obtain rfl : k = most + 1 := h2
    refine ⟨by omega, by omega, ?_, rfl, rfl, rfl⟩
    rw [show ((most + 1 : Nat) : Int) = (most : Int) + 1 by omega]; simp
  | unsat p k =>
    obtain ⟨pv, e, -⟩ := h1
    injection e with e
    simp only [Array.mk.injEq, List.cons.injEq, Value.int.injEq, true_and, and_true] at e
    obtain ⟨rfl, -, -, rfl⟩ := e
    have h3 := h2.1
    refine ⟨by omega, by omega, ?_, rfl, rfl, rfl⟩
    symm
    exact beq_eq_false_iff_ne.2 (by omega)
  | sat t k =>
    obtain ⟨pv, e, -⟩ := h1
    injection e with e
    simp only [Array.mk.injEq, List.cons.injEq, Value.int.injEq, true_and, and_true] at e
    obtain ⟨rfl, -, -, rfl⟩ := e
    have h3 := h2.1
    refine ⟨by omega, by omega, ?_, rfl, rfl, rfl⟩
    symm
    exact beq_eq_false_iff_ne.2 (by omega)
end Go.Proofs.Ytdepdceaojenoaa
