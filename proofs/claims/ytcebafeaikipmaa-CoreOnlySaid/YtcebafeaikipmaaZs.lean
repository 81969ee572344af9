/- With few variables a search meets few conflicts: the trail read as a number of two digits. Plain. / What True and Holds of the reference compute. / Whether there are truths of so many variables: what the reference computes. / .. -/
import Derived.Laws.BitsLemmas
import Derived.Test.YtcebafeaikipmaaZa
import Derived.Test.YtcebafeaikipmaaZe
import Derived.Test.YtcebafeaikipmaaZk
namespace Go.Proofs.Ytcebafeaikipmaa.S15
def tn (N : Nat) (E : List Nat) : Nat → Nat
  | 0 => 0
  | k + 1 => tn N E k + if k ∈ E then 0 else 2 ^ (N - 1 - k)
theorem tn_mono (N : Nat) (E : List Nat) {k l : Nat} (h : k ≤ l) : tn N E k ≤ tn N E l := by
  induction l with
  | zero => rw [Nat.le_zero.1 h]; exact Nat.le_refl _
  | succ l ih =>
    rcases Nat.lt_or_ge l k with h2 | h2
    · rw [show k = l + 1 by omega]; exact Nat.le_refl _
    · rw [tn]; exact Nat.le_trans (ih h2) (Nat.le_add_right _ _)
theorem tn_tail (N : Nat) (E : List Nat) {e l : Nat} (h : e ≤ l) (hl : l ≤ N) : tn N E l + 2 ^ (N - l) ≤ tn N E e + 2 ^ (N - e) := by
  induction l with
  | zero => rw [Nat.le_zero.1 h]; exact Nat.le_refl _
  | succ l ih =>
    rcases Nat.lt_or_ge l e with h2 | h2
    · rw [show e = l + 1 by omega]; exact Nat.le_refl _
    · have h3 := ih h2 (by omega)
      have h4 : 2 ^ (N - l) = 2 * 2 ^ (N - (l + 1)) := by rw [show N - l = (N - (l + 1)) + 1 by omega, Nat.pow_succ]; omega
      rw [tn]
      have h5 : (if l ∈ E then 0 else 2 ^ (N - 1 - l)) ≤ 2 ^ (N - (l + 1)) := by
        split
        · exact Nat.zero_le _
        · rw [show N - 1 - l = N - (l + 1) by omega]; exact Nat.le_refl _
      omega
theorem tn_congr (N : Nat) {E F : List Nat} {k : Nat} (h : ∀ i, i < k → (i ∈ E ↔ i ∈ F)) : tn N E k = tn N F k := by
  induction k with
  | zero => rfl
  | succ k ih =>
    rw [tn, tn, ih fun i hi => h i (by omega)]
    by_cases e : k ∈ E
    · rw [if_pos e, if_pos ((h k (by omega)).1 e)]
    · rw [if_neg e, if_neg fun e2 => e ((h k (by omega)).2 e2)]
theorem tn_lt (N : Nat) (E : List Nat) {l : Nat} (hl : l ≤ N) : tn N E l < 2 ^ N := by
  have := tn_tail N E (Nat.zero_le l) hl
  have h2 := Nat.two_pow_pos (N - l)
  simp only [tn, Nat.sub_zero] at this
  omega
theorem take_iff {E : List Nat} (h : E.Pairwise (· < ·)) {lv i : Nat} (hl : lv < E.length) (hi : i < E[lv]) : i ∈ E ↔ i ∈ E.take lv := by
  refine ⟨fun hm => ?_, fun hm => List.mem_of_mem_take hm⟩
  obtain ⟨j, hj, rfl⟩ := List.mem_iff_getElem.1 hm
  have hjl : j < lv := by
    apply Nat.lt_of_not_le
    intro hle
    rcases Nat.lt_or_eq_of_le hle with k | k
    · have := List.pairwise_iff_getElem.1 h lv j hl hj k; omega
    · subst k; omega
  exact List.mem_iff_getElem.2 ⟨j, by simp; omega, by rw [List.getElem_take]⟩
theorem take_not {E : List Nat} (h : E.Pairwise (· < ·)) {lv : Nat} (hl : lv < E.length) : E[lv] ∉ E.take lv := fun hm => by
  obtain ⟨j, hj, e⟩ := List.mem_iff_getElem.1 hm
  rw [List.getElem_take] at e
  have hj2 : j < lv := by simp at hj; omega
  have := List.pairwise_iff_getElem.1 h j lv (by omega) hl hj2
  omega
theorem tn_cf (N : Nat) {E : List Nat} (h : E.Pairwise (· < ·)) {lv l : Nat} (hl : lv < E.length) (h1 : E[lv] < l) (h2 : l ≤ N) : tn N E l + 1 ≤ tn N (E.take lv) (E[lv] + 1) := by
  have h3 := tn_tail N E (show E[lv] + 1 ≤ l from h1) h2
  have h4 := Nat.two_pow_pos (N - l)
  have h5 : tn N E (E[lv] + 1) = tn N E E[lv] := by rw [tn, if_pos (List.getElem_mem hl)]; rfl
  have h6 : tn N (E.take lv) (E[lv] + 1) = tn N (E.take lv) E[lv] + 2 ^ (N - (E[lv] + 1)) := by
    rw [tn, if_neg (take_not h hl), show N - 1 - E[lv] = N - (E[lv] + 1) by omega]
  have h7 : tn N E E[lv] = tn N (E.take lv) E[lv] := tn_congr N fun i hi => take_iff h hl hi
  omega
def TN (N : Nat) (s : St) : Nat := tn N s.ends s.trail.length
def rs : Nat → Nat
  | 0 => 50
  | j + 1 => rs j + rs j / 2
theorem keep_te (s : St) (l : List Nat) : (keepS s l).trail.length = s.trail.length + 1 ∧ (keepS s l).ends = s.ends := by
  by_cases e : l.length = 1
  · rw [keepS_one e]; exact ⟨by simp [setS], rfl⟩
  · rw [keepS_more e]
    have h := att_att { s with proof := s.proof ++ [l.map numI] } l 0 s.clauses (s.learned ++ [s.cls.length])
    exact ⟨by show (_ ++ [_]).length = _; rw [h.trail]; simp, h.ends⟩
/-- few conflicts -/
def Bd (n : Nat) (k : Ct) : Prop := ∃ j c0 : Nat, j ≤ 8 ∧ k.rest = rs j ∧ (c0 : Int) = (k.rest : Int) - k.left ∧ k.conf ≤ 1024 * j + c0 ∧ c0 ≤ TN n k.st
section
variable {cs : List (List Int)} {n most : Nat} {k k' : Ct} {l : List Nat}
theorem TN_lt {U : Nat → Prop} {s : St} (h : Tr U s) (hv : s.vars = n) (hn : n ≤ 10) : TN n s < 1024 := by
  have h1 := h.len
  have h2 : TN n s < 2 ^ n := tn_lt n _ (by omega)
  have h3 : 2 ^ n ≤ 2 ^ 10 := Nat.pow_le_pow_right (by omega) hn
  omega
theorem Bd.conf {U : Nat → Prop} (h : Bd n k) (hT : Tr U k.st) (hv : k.st.vars = n) (hn : n ≤ 10) : k.conf ≤ 9216 := by
  obtain ⟨j, c0, h1, h2, h3, h4, h5⟩ := h
  have := TN_lt hT hv hn
  omega
theorem Bd.next (hn : n ≤ 10) (h : Ctv cs n most k) (hb : Bd n k) (e : roundS most k l = .inl k') : Bd n k' := by
  obtain ⟨j, c0, b1, b2, b3, b4, b5⟩ := hb
  have hlt := TN_lt h.sv.ui.tr h.vars hn
  obtain ⟨h1, h2, h3⟩ := h.sv.units
  obtain ⟨q, hq⟩ : ∃ q, q = unitsS (k.st.vars + 1) k.st := ⟨_, rfl⟩
  rw [← hq] at h1 h2 h3
  obtain ⟨s, b⟩ := q
  simp only at h1 h2 h3
  have hmono : TN n k.st ≤ TN n s := by
    obtain ⟨t, ht⟩ := h2.tr
    unfold TN
    rw [h2.ends, ht, List.length_append]
    exact tn_mono _ _ (Nat.le_add_right _ _)
  have hv : s.vars = n := h2.vars.trans h.vars
  cases b with
  | some c =>
    have h1' : Conf (Uc cs s) (Dc_ cs s) s c := by show Conf (Ud (cs ++ s.proof)) (Dd (cs ++ s.proof)) _ _; rw [h2.proof]; exact h1
    by_cases hm : most < k.conf + 1
    · rw [round_opn hq hm] at e; cases e
    · by_cases he : s.ends.length = 0
      · rw [round_uns hq hm he] at e; cases e
      · rw [round_cf hq hm he] at e
        injection e with e
        subst e
        obtain ⟨K, hK, hl, -, -, -⟩ := conflict h1' h3 (by omega)
        obtain ⟨x, r, -, -, -, -, -, hlb, -, -⟩ := hl.hd
        have hT := h1'.ui.tr
        obtain ⟨t, ht⟩ : ∃ t, t = (learnS s c).1 := ⟨_, rfl⟩
        obtain ⟨lb, hlb2⟩ : ∃ lb, lb = (learnS s c).2.2 := ⟨_, rfl⟩
        have hfe : t.ends = s.ends := by rw [ht]; exact hl.fr.ends
        rw [← hlb2] at hlb
        have hbe : (backS t lb).ends = s.ends.take lb ∧ (backS t lb).trail.length = s.ends[lb] := by
          unfold backS
          rw [hfe, if_neg (by omega)]
          have h0 : s.ends.getD lb 0 = s.ends[lb] := by rw [List.getD_eq_getElem?_getD, List.getElem?_eq_getElem hlb]; rfl
          have h5 := (hT.el _ (List.getElem_mem hlb)).1
          have h6 : t.trail = s.trail := by rw [ht]; exact hl.fr.trail
          refine ⟨rfl, ?_⟩
          show (t.trail.take _).length = _
          rw [h0, h6, List.length_take]; omega
        have hcf := tn_cf n hT.en hlb (hT.el _ (List.getElem_mem hlb)).1 (by have := hT.len; omega)
        refine ⟨j, c0 + 1, b1, b2, by show ((c0 + 1 : Nat) : Int) = (k.rest : Int) - (k.left - 1); omega, by show k.conf + 1 ≤ _; omega, ?_⟩
        show c0 + 1 ≤ tn n (keptS s c).ends (keptS s c).trail.length
        unfold keptS
        rw [← ht, ← hlb2, (keep_te _ _).1, (keep_te _ _).2, hbe.1, hbe.2]
        have : TN n s = tn n s.ends s.trail.length := rfl
        omega
  | none =>
    have hrs := h.rested hq
    have hroom : ∀ m : Ct, (roomS m l).st.ends = m.st.ends ∧ (roomS m l).st.trail = m.st.trail ∧ (roomS m l).rest = m.rest ∧ (roomS m l).left = m.left ∧ (roomS m l).conf = m.conf := fun m => by
      unfold roomS
      split
      · exact ⟨(forget_ok _ l).1.ends, (forget_ok _ l).1.trail, rfl, rfl, rfl⟩
      · exact ⟨rfl, rfl, rfl, rfl, rfl⟩
    obtain ⟨m1, m2, m3, m4, m5⟩ := hroom (restS k s)
    cases hd : decideS (roomS (restS k s) l).st with
    | none => rw [round_sat hq hd] at e; cases e
    | some t =>
      rw [round_dec hq hd] at e
      injection e with e
      subst e
      have hdt : TN n t = TN n (restS k s).st := by
        have hte : t.ends = (roomS (restS k s) l).st.ends ++ [(roomS (restS k s) l).st.trail.length] ∧ t.trail.length = (roomS (restS k s) l).st.trail.length + 1 := by
          unfold decideS at hd
          simp only at hd
          split at hd
          · cases hd
          · injection hd with hd
            subst hd
            exact ⟨rfl, by simp [setS]⟩
        unfold TN
        rw [hte.1, hte.2, m1, m2, tn, if_pos (by simp), Nat.add_zero]
        refine tn_congr n fun i hi => ?_
        simp only [List.mem_append, List.mem_singleton]
        exact ⟨fun o => o.elim id fun e2 => by omega, .inl⟩
      by_cases hlf : k.left ≤ 0
      · have hr : (restS k s).rest = k.rest + k.rest / 2 ∧ (restS k s).left = ((k.rest + k.rest / 2 : Nat) : Int) ∧ (restS k s).conf = k.conf := by rw [restS_yes hlf]; exact ⟨rfl, rfl, rfl⟩
        have hj : j ≤ 7 := by
          apply Nat.le_of_not_lt
          intro hj
          have : j = 8 := by omega
          subst this
          have : k.rest = 1275 := b2
          omega
        refine ⟨j + 1, 0, by omega, ?_, ?_, ?_, Nat.zero_le _⟩
        · show (roomS (restS k s) l).rest = _
          rw [m3, hr.1, b2]; rfl
        · show ((0 : Nat) : Int) = ((roomS (restS k s) l).rest : Int) - (roomS (restS k s) l).left
          rw [m3, m4, hr.1, hr.2.1]; omega
        · show (roomS (restS k s) l).conf ≤ _
          rw [m5, hr.2.2]; omega
      · have hr : (restS k s).rest = k.rest ∧ (restS k s).left = k.left ∧ (restS k s).conf = k.conf ∧ (restS k s).st = s := by rw [restS_no hlf]; exact ⟨rfl, rfl, rfl, rfl⟩
        refine ⟨j, c0, b1, ?_, ?_, ?_, ?_⟩
        · show (roomS (restS k s) l).rest = _
          rw [m3, hr.1, b2]
        · show (c0 : Int) = ((roomS (restS k s) l).rest : Int) - (roomS (restS k s) l).left
          rw [m3, m4, hr.1, hr.2.1]; exact b3
        · show (roomS (restS k s) l).conf ≤ _
          rw [m5, hr.2.2.1]; exact b4
        · show c0 ≤ TN n t
          rw [hdt, hr.2.2.2]; omega
theorem Run.not_opn (hcs : ∀ C ∈ cs, ∀ m ∈ C, m ≠ 0 ∧ m.natAbs ≤ n) (hn : n ≤ 10) (hm : 10000 ≤ most) {a : SAns} (r : Run most k a) (h : Ctv cs n most k) (hb : Bd n k) : ∀ u, a ≠ .opn u := by
  induction r with
  | stop l hl e =>
    rintro u rfl
    have h1 := h.round hcs hl
    rw [e] at h1
    have h2 : u = most + 1 := h1
    have h3 := hb.conf h.sv.ui.tr h.vars hn
    rw [roundS_eq] at e
    split at e
    · split at e
      · injection e with e
        injection e with e
        omega
      · split at e <;> cases e
    · split at e <;> cases e
  | step l hl e _ ih => exact ih (h.next hcs hl e).1 (hb.next hn h e)
theorem SolveR.not_opn (hcs : ∀ C ∈ cs, ∀ m ∈ C, m ≠ 0 ∧ m.natAbs ≤ n) (hn : n ≤ 10) (hl : cs.length ≤ 16384) (hm : 10000 ≤ most) {a : SAns} (h : SolveR cs n most a) : ∀ u, a ≠ .opn u := by
  have h0 := addAll_ok cs [] (newS n) (Ad.new cs (by omega)) (fun _ h => h) hcs
  unfold SolveR at h
  by_cases e : (addAll cs (newS n)).2 = true
  · rw [if_pos e] at h h0
    rw [List.nil_append] at h0
    exact h.not_opn hcs hn hm (h0.ctv hl most) ⟨0, 0, by omega, rfl, rfl, Nat.le_refl _, Nat.zero_le _⟩
  · rw [if_neg e] at h
    rw [h]
    rintro u ⟨⟩
end
end Go.Proofs.Ytcebafeaikipmaa.S15

namespace Go.Proofs.Ytcebafeaikipmaa.S15
open Go.RowKit

end Go.Proofs.Ytcebafeaikipmaa.S15

namespace Go.Proofs.Ytcebafeaikipmaa.S15
open Go.RowKit
def bitsOf (n k : Nat) : List Bool := (List.range n).map fun v => decide (k / 2 ^ v % 2 = 1)
theorem bitsOf_length (n k : Nat) : (bitsOf n k).length = n := by simp [bitsOf]
theorem bitsOf_succ (n k : Nat) : bitsOf (n + 1) k = bitsOf n k ++ [decide (k / 2 ^ n % 2 = 1)] := by simp [bitsOf, List.range_succ]
theorem bitsOf_cons (n k : Nat) : bitsOf (n + 1) k = decide (k % 2 = 1) :: bitsOf n (k / 2) := by
  unfold bitsOf
  rw [List.range_succ_eq_map, List.map_cons, List.map_map]
  congr 1
  · simp
  · refine List.map_congr_left fun v _ => ?_
    simp only [Function.comp_apply]
    rw [Nat.pow_succ, Nat.mul_comm, Nat.div_div_eq_div_mul]
theorem bitsOf_all : ∀ o : List Bool, ∃ k, k < 2 ^ o.length ∧ bitsOf o.length k = o
  | [] => ⟨0, by simp, rfl⟩
  | b :: o => by
    obtain ⟨k, hk, he⟩ := bitsOf_all o
    refine ⟨2 * k + (if b then 1 else 0), ?_, ?_⟩
    · rw [List.length_cons, Nat.pow_succ]; split <;> omega
    · rw [List.length_cons, bitsOf_cons]
      have h1 : (2 * k + (if b then 1 else 0)) / 2 = k := by split <;> omega
      rw [h1, he]
      cases b <;> simp <;> omega
/-- There are truths of n variables. -/
def someN (C : List (List Int)) (n : Nat) : Bool := (List.range (2 ^ n)).any fun k => C.all (clauseTrue (bitsOf n k))
theorem someN_iff {C : List (List Int)} {n : Nat} : someN C n = true ↔ ∃ o : List Bool, o.length = n ∧ C.all (clauseTrue o) = true := by
  unfold someN
  rw [List.any_eq_true]
  constructor
  · rintro ⟨k, _, h⟩; exact ⟨_, bitsOf_length n k, h⟩
  · rintro ⟨o, rfl, h⟩
    obtain ⟨k, hk, he⟩ := bitsOf_all o
    exact ⟨k, List.mem_range.2 hk, by rw [he]; exact h⟩
theorem range_any_succ {p : Nat → Bool} {k : Nat} : (List.range (k + 1)).any p = ((List.range k).any p || p k) := by rw [List.range_succ, List.any_append]; simp
theorem bit_one {x : Nat} (hx : x < 1099511627776) : (bits BinOp.and IntKind.i64 (x : Int) 1 == 1) = decide (x % 2 = 1) := by
  have e62 : (2 : Int) ^ 62 = 4611686018427387904 := by decide
  have hw : ∀ n : Int, 0 ≤ n → n < 2 ^ 62 → IntKind.i64.wrap n = n := by
    intro n h0 h1
    rw [e62] at h1
    exact IntWalk.i64_in _ (by omega)
  have h := bits_mask .i64 62 (by decide) hw 1 (by decide) (x : Int) (by omega) (by rw [e62]; omega)
  have e : ((2 : Int) ^ 1 - 1) = 1 := by decide
  have e2 : ((2 : Int) ^ 1) = 2 := by decide
  rw [e, e2] at h
  rw [h, Bool.eq_iff_iff]
  simp
  omega
theorem eBool : Elem1 Try.prog 67 4 1 := elem1_mk (z := .bool false) Try.underlying67 (by kernel_rfl) (by omega) rfl
end Go.Proofs.Ytcebafeaikipmaa.S15

namespace Go.Proofs.Ytcebafeaikipmaa.S15
theorem may_nonneg {v : Int} {C : List (List Int)} (h : satMayN v C = 0) : 0 ≤ v := by
  unfold satMayN at h
  split at h
  · cases h
  · split at h
    · cases h
    · split at h
      · cases h
      · omega
theorem trueL_neg {t : List Bool} {m : Int} (h0 : m ≠ 0) : trueL t (-m) = !trueL t m := by
  unfold trueL
  by_cases h : 0 < m
  · rw [if_pos h, if_neg (by omega)]; simp
  · rw [if_neg h, if_pos (by omega)]; simp
theorem rup_sound {db : List (List Int)} {C : List Int} {t : List Bool} (h : Rup db C) (hdb : ∀ D ∈ db, ∀ m ∈ D, m ≠ 0) (ht : ∀ D ∈ db, ∃ m ∈ D, trueL t m = true) (hC : ∀ m ∈ C, m ≠ 0) : ∃ m ∈ C, trueL t m = true := by
  apply Classical.byContradiction
  intro hn
  refine h (fun m => m ≠ 0 ∧ trueL t m = true) ⟨fun D hD => ?_, fun D hD n hn2 hm => ?_, fun n h1 h2 => ?_⟩ fun m hm => ?_
  · obtain ⟨m, hm, hm2⟩ := ht D hD
    refine ⟨m, hm, fun e => ?_⟩
    rw [trueL_neg (hdb D hD m hm), hm2] at e
    exact absurd e.2 (by simp)
  · obtain ⟨m, hm3, hm4⟩ := ht D hD
    by_cases e : m = n
    · subst e; exact ⟨hdb D hD m hm3, hm4⟩
    · have := (hm m hm3 e).2
      rw [trueL_neg (hdb D hD m hm3), hm4] at this
      exact absurd this (by simp)
  · have := h2.2
    rw [trueL_neg h1.1, h1.2] at this
    exact absurd this (by simp)
  · refine ⟨by have := hC m hm; omega, ?_⟩
    rw [trueL_neg (hC m hm)]
    cases e : trueL t m with
    | false => rfl
    | true => exact (hn ⟨m, hm, e⟩).elim
theorem rupAll_sound {cs p : List (List Int)} {t : List Bool} (h : RupAll cs p) (hcs : ∀ D ∈ cs, ∀ m ∈ D, m ≠ 0) (hp : ∀ D ∈ p, ∀ m ∈ D, m ≠ 0) (ht : ∀ D ∈ cs, ∃ m ∈ D, trueL t m = true) : ∀ (i : Nat) (C : List Int), p[i]? = some C → ∃ m ∈ C, trueL t m = true := by
  intro i
  induction i using Nat.strongRecOn with
  | ind i ih =>
    intro C hC
    refine rup_sound (h i C hC) (fun D hD => ?_) (fun D hD => ?_) (hp C (List.mem_of_getElem? hC))
    · rcases List.mem_append.1 hD with k | k
      · exact hcs D k
      · exact hp D (List.mem_of_mem_take k)
    · rcases List.mem_append.1 hD with k | k
      · exact ht D k
      · obtain ⟨j, hj, e⟩ := List.mem_take_iff_getElem.1 k
        exact ih j (by omega) D (by rw [← e]; exact List.getElem?_eq_getElem _)
theorem lit_trueL {t : List Bool} {m : Int} (h : litTrue t m = true) : trueL t m = true := by
  unfold litTrue at h
  unfold trueL
  split at h
  · rename_i h1; rw [if_pos h1]; exact h
  · rename_i h1
    rw [if_neg h1]
    split at h
    · exact h
    · cases h
def isSat : SAns → Bool
  | .sat _ _ => true
  | _ => false
theorem ans_some {cs : List (List Int)} {n most : Nat} {a : SAns} (hcs : ∀ D ∈ cs, ∀ m ∈ D, m ≠ 0 ∧ m.natAbs ≤ n) (ho : AnsOk cs n most a) (hp : AnsPb n most a) (hn : ∀ u, a ≠ .opn u) : someN cs n = isSat a := by
  cases a with
  | opn k => exact (hn k rfl).elim
  | sat t k =>
    obtain ⟨-, h2, h3⟩ := ho
    refine someN_iff.2 ⟨t, h2, ?_⟩
    rw [List.all_eq_true]
    intro C hC
    obtain ⟨m, hm, hm2⟩ := h3 C hC
    unfold clauseTrue
    rw [List.any_eq_true]
    exact ⟨m, hm, trueL_lit (hcs C hC m hm).1 hm2⟩
  | unsat p k =>
    obtain ⟨-, p', rfl, h3, h4⟩ := ho
    show someN cs n = false
    cases e : someN cs n with
    | false => rfl
    | true =>
      obtain ⟨o, h1, h2⟩ := someN_iff.1 e
      rw [List.all_eq_true] at h2
      have := rupAll_sound (t := o) h3 (fun D hD m hm => (hcs D hD m hm).1) (fun D hD m hm => (hp.1 D hD m hm).1) (fun D hD => by
        have := h2 D hD
        unfold clauseTrue at this
        rw [List.any_eq_true] at this
        obtain ⟨m, hm, hm2⟩ := this
        exact ⟨m, hm, lit_trueL hm2⟩) p'.length [] (by simp)
      obtain ⟨m, hm, -⟩ := this
      cases hm
end Go.Proofs.Ytcebafeaikipmaa.S15

namespace Go.Proofs.Ytcebafeaikipmaa.S15
/-- few conflicts: less than B behind a restart, and no more than J restarts -/
def BdJ (B J n : Nat) (k : Ct) : Prop := ∃ j c0 : Nat, j ≤ J ∧ k.rest = rs j ∧ (c0 : Int) = (k.rest : Int) - k.left ∧ k.conf ≤ B * j + c0 ∧ c0 ≤ TN n k.st
section
variable {cs : List (List Int)} {B J n most : Nat} {k k' : Ct} {l : List Nat}
theorem TN_ltB {B : Nat} {U : Nat → Prop} {s : St} (h : Tr U s) (hv : s.vars = n) (hB : 2 ^ n ≤ B) : TN n s < B := by
  have h1 := h.len
  have h2 : TN n s < 2 ^ n := tn_lt n _ (by omega)
  omega
theorem BdJ.conf {U : Nat → Prop} (h : BdJ B J n k) (hT : Tr U k.st) (hv : k.st.vars = n) (hB : 2 ^ n ≤ B) : k.conf < B * (J + 1) := by
  obtain ⟨j, c0, h1, h2, h3, h4, h5⟩ := h
  have := TN_ltB hT hv hB
  have h6 := Nat.mul_le_mul_left B h1
  rw [Nat.mul_add, Nat.mul_one]
  omega
theorem BdJ.next (hB : 2 ^ n ≤ B) (hJ : B ≤ rs J) (h : Ctv cs n most k) (hb : BdJ B J n k) (e : roundS most k l = .inl k') : BdJ B J n k' := by
  obtain ⟨j, c0, b1, b2, b3, b4, b5⟩ := hb
  have hlt := TN_ltB h.sv.ui.tr h.vars hB
  obtain ⟨h1, h2, h3⟩ := h.sv.units
  obtain ⟨q, hq⟩ : ∃ q, q = unitsS (k.st.vars + 1) k.st := ⟨_, rfl⟩
  rw [← hq] at h1 h2 h3
  obtain ⟨s, b⟩ := q
  simp only at h1 h2 h3
  have hmono : TN n k.st ≤ TN n s := by
    obtain ⟨t, ht⟩ := h2.tr
    unfold TN
    rw [h2.ends, ht, List.length_append]
    exact tn_mono _ _ (Nat.le_add_right _ _)
  have hv : s.vars = n := h2.vars.trans h.vars
  cases b with
  | some c =>
    have h1' : Conf (Uc cs s) (Dc_ cs s) s c := by show Conf (Ud (cs ++ s.proof)) (Dd (cs ++ s.proof)) _ _; rw [h2.proof]; exact h1
    by_cases hm : most < k.conf + 1
    · rw [round_opn hq hm] at e; cases e
    · by_cases he : s.ends.length = 0
      · rw [round_uns hq hm he] at e; cases e
      · rw [round_cf hq hm he] at e
        injection e with e
        subst e
        obtain ⟨K, hK, hl, -, -, -⟩ := conflict h1' h3 (by omega)
        obtain ⟨x, r, -, -, -, -, -, hlb, -, -⟩ := hl.hd
        have hT := h1'.ui.tr
        obtain ⟨t, ht⟩ : ∃ t, t = (learnS s c).1 := ⟨_, rfl⟩
        obtain ⟨lb, hlb2⟩ : ∃ lb, lb = (learnS s c).2.2 := ⟨_, rfl⟩
        have hfe : t.ends = s.ends := by rw [ht]; exact hl.fr.ends
        rw [← hlb2] at hlb
        have hbe : (backS t lb).ends = s.ends.take lb ∧ (backS t lb).trail.length = s.ends[lb] := by
          unfold backS
          rw [hfe, if_neg (by omega)]
          have h0 : s.ends.getD lb 0 = s.ends[lb] := by rw [List.getD_eq_getElem?_getD, List.getElem?_eq_getElem hlb]; rfl
          have h5 := (hT.el _ (List.getElem_mem hlb)).1
          have h6 : t.trail = s.trail := by rw [ht]; exact hl.fr.trail
          refine ⟨rfl, ?_⟩
          show (t.trail.take _).length = _
          rw [h0, h6, List.length_take]; omega
        have hcf := tn_cf n hT.en hlb (hT.el _ (List.getElem_mem hlb)).1 (by have := hT.len; omega)
        refine ⟨j, c0 + 1, b1, b2, by show ((c0 + 1 : Nat) : Int) = (k.rest : Int) - (k.left - 1); omega, by show k.conf + 1 ≤ _; omega, ?_⟩
        show c0 + 1 ≤ tn n (keptS s c).ends (keptS s c).trail.length
        unfold keptS
        rw [← ht, ← hlb2, (keep_te _ _).1, (keep_te _ _).2, hbe.1, hbe.2]
        have : TN n s = tn n s.ends s.trail.length := rfl
        omega
  | none =>
    have hrs := h.rested hq
    have hroom : ∀ m : Ct, (roomS m l).st.ends = m.st.ends ∧ (roomS m l).st.trail = m.st.trail ∧ (roomS m l).rest = m.rest ∧ (roomS m l).left = m.left ∧ (roomS m l).conf = m.conf := fun m => by
      unfold roomS
      split
      · exact ⟨(forget_ok _ l).1.ends, (forget_ok _ l).1.trail, rfl, rfl, rfl⟩
      · exact ⟨rfl, rfl, rfl, rfl, rfl⟩
    obtain ⟨m1, m2, m3, m4, m5⟩ := hroom (restS k s)
    cases hd : decideS (roomS (restS k s) l).st with
    | none => rw [round_sat hq hd] at e; cases e
    | some t =>
      rw [round_dec hq hd] at e
      injection e with e
      subst e
      have hdt : TN n t = TN n (restS k s).st := by
        have hte : t.ends = (roomS (restS k s) l).st.ends ++ [(roomS (restS k s) l).st.trail.length] ∧ t.trail.length = (roomS (restS k s) l).st.trail.length + 1 := by
          unfold decideS at hd
          simp only at hd
          split at hd
          · cases hd
          · injection hd with hd
            subst hd
            exact ⟨rfl, by simp [setS]⟩
        unfold TN
        rw [hte.1, hte.2, m1, m2, tn, if_pos (by simp), Nat.add_zero]
        refine tn_congr n fun i hi => ?_
        simp only [List.mem_append, List.mem_singleton]
        exact ⟨fun o => o.elim id fun e2 => by omega, .inl⟩
      by_cases hlf : k.left ≤ 0
      · have hr : (restS k s).rest = k.rest + k.rest / 2 ∧ (restS k s).left = ((k.rest + k.rest / 2 : Nat) : Int) ∧ (restS k s).conf = k.conf := by rw [restS_yes hlf]; exact ⟨rfl, rfl, rfl⟩
        have hj : j + 1 ≤ J := by
          apply Nat.le_of_not_lt
          intro hj
          have : j = J := by omega
          subst this
          omega
        refine ⟨j + 1, 0, hj, ?_, ?_, ?_, Nat.zero_le _⟩
        · show (roomS (restS k s) l).rest = _
          rw [m3, hr.1, b2]; rfl
        · show ((0 : Nat) : Int) = ((roomS (restS k s) l).rest : Int) - (roomS (restS k s) l).left
          rw [m3, m4, hr.1, hr.2.1]; omega
        · show (roomS (restS k s) l).conf ≤ _
          rw [m5, hr.2.2, Nat.mul_add, Nat.mul_one]; omega
      · have hr : (restS k s).rest = k.rest ∧ (restS k s).left = k.left ∧ (restS k s).conf = k.conf ∧ (restS k s).st = s := by rw [restS_no hlf]; exact ⟨rfl, rfl, rfl, rfl⟩
        refine ⟨j, c0, b1, ?_, ?_, ?_, ?_⟩
        · show (roomS (restS k s) l).rest = _
          rw [m3, hr.1, b2]
        · show (c0 : Int) = ((roomS (restS k s) l).rest : Int) - (roomS (restS k s) l).left
          rw [m3, m4, hr.1, hr.2.1]; exact b3
        · show (roomS (restS k s) l).conf ≤ _
          rw [m5, hr.2.2.1]; exact b4
        · show c0 ≤ TN n t
          rw [hdt, hr.2.2.2]; omega
theorem Run.not_opnB (hcs : ∀ C ∈ cs, ∀ m ∈ C, m ≠ 0 ∧ m.natAbs ≤ n) (hB : 2 ^ n ≤ B) (hJ : B ≤ rs J) (hm : B * (J + 1) ≤ most) {a : SAns} (r : Run most k a) (h : Ctv cs n most k) (hb : BdJ B J n k) : ∀ u, a ≠ .opn u := by
  induction r with
  | stop l hl e =>
    rintro u rfl
    have h1 := h.round hcs hl
    rw [e] at h1
    have h2 : u = most + 1 := h1
    have h3 := hb.conf h.sv.ui.tr h.vars hB
    rw [roundS_eq] at e
    split at e
    · split at e
      · injection e with e
        injection e with e
        omega
      · split at e <;> cases e
    · split at e <;> cases e
  | step l hl e _ ih => exact ih (h.next hcs hl e).1 (hb.next hB hJ h e)
theorem SolveR.not_opnB (hcs : ∀ C ∈ cs, ∀ m ∈ C, m ≠ 0 ∧ m.natAbs ≤ n) (hn : n ≤ 2000) (hB : 2 ^ n ≤ B) (hJ : B ≤ rs J) (hl : cs.length ≤ 16384) (hm : B * (J + 1) ≤ most) {a : SAns} (h : SolveR cs n most a) : ∀ u, a ≠ .opn u := by
  have h0 := addAll_ok cs [] (newS n) (Ad.new cs hn) (fun _ h => h) hcs
  unfold SolveR at h
  by_cases e : (addAll cs (newS n)).2 = true
  · rw [if_pos e] at h h0
    rw [List.nil_append] at h0
    exact h.not_opnB hcs hB hJ hm (h0.ctv hl most) ⟨0, 0, Nat.zero_le _, rfl, rfl, Nat.zero_le _, Nat.zero_le _⟩
  · rw [if_neg e] at h
    rw [h]
    rintro u ⟨⟩
end
/-- at most seven variables: less than 512 conflicts -/
theorem SolveR.not_opn7 {cs : List (List Int)} {n most : Nat} {a : SAns} (hcs : ∀ C ∈ cs, ∀ m ∈ C, m ≠ 0 ∧ m.natAbs ≤ n) (hn : n ≤ 7) (hl : cs.length ≤ 16384) (hm : 512 ≤ most) (h : SolveR cs n most a) : ∀ u, a ≠ .opn u :=
  h.not_opnB (B := 128) (J := 3) hcs (by omega) (Nat.pow_le_pow_right (by omega) hn) (by decide) hl hm
end Go.Proofs.Ytcebafeaikipmaa.S15
