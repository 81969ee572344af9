/- The law CnfLimits: plain law. -/
import Derived.Test.YtlaihjhkghbfkaaCnfM3
namespace Go.Proofs.Ytlaihjhkghbfkaa
open Go.RowKit

def clsOf (i : Nat) : ByteArray := ⟨#[UInt8.ofNat (97 + i % 16), UInt8.ofNat (97 + i / 16 % 16), UInt8.ofNat (97 + i / 256)]⟩
def limItem (alike : Bool) (i : Nat) : ItemD := ((bG, bA, bJar, if alike then ⟨#[]⟩ else clsOf i), b1)
def limItems (alike : Bool) (n : Nat) : List ItemD := (List.range n).map (limItem alike)
def limWants (n : Nat) : List (List (List Int)) := List.replicate n []
theorem limItems_length (a : Bool) (n : Nat) : (limItems a n).length = n := by simp [limItems]
theorem limItems_succ (a : Bool) (n : Nat) : limItems a (n + 1) = limItems a n ++ [limItem a n] := by simp [limItems, List.range_succ]
theorem limItems_at (a : Bool) (n k : Nat) (h : k < (limItems a n).length) : (limItems a n)[k] = limItem a k := by simp [limItems]
theorem limWants_succ (n : Nat) : limWants (n + 1) = limWants n ++ [[]] := by simp [limWants, List.replicate_succ']
theorem lim_light (n : Nat) : lightW (limWants n) := by
  intro ws h
  obtain ⟨_, rfl⟩ := List.mem_replicate.1 h
  simp
theorem lim_may {a : Bool} {n : Nat} (h1 : 1 ≤ n) (h2 : n ≤ 1024) : mayN (limItems a n).length 0 (limWants n) = 0 := by
  rw [limItems_length]
  unfold mayN
  rw [if_neg (by omega), if_neg (by simp [isItemB, limWants]; omega), if_neg]
  simp [badRR, limWants, badR]
theorem lim_big {a : Bool} {n : Nat} (h : 1024 < n) : mayN (limItems a n).length 0 (limWants n) = 2 := by
  rw [limItems_length, mayN, if_pos h]
theorem wcls_lim (n : Nat) : ∀ i, wcls (limWants n) i = [] := by
  induction n with
  | zero => intro i; rfl
  | succ n ih => intro i; rw [limWants, List.replicate_succ, wcls]; exact ih (i + 1)
theorem kAt_lim {a : Bool} {n k : Nat} (h : k < n) : kAt (limItems a n) k = (limItem a k).1 := by
  simp [kAt, keyAt, limItems, h]
theorem pairsAt_alike {n i : Nat} (hi : i < n) : ∀ m, m ≤ n → (pairsAt (limItems true n) i m).length = m - 1 - i := by
  intro m
  induction m with
  | zero => intro _; simp [pairsAt]
  | succ m ih =>
    intro hm
    rw [pairsAt_succ, List.length_append, ih (by omega), kAt_lim hi, kAt_lim (by omega : m < n)]
    by_cases h : i < m
    · simp [h, limItem]; omega
    · simp [h]; omega
theorem pairsTo_alike {n : Nat} : ∀ m, m ≤ n → 2 * (pairsTo (limItems true n) m).length + m * m + m = 2 * m * n := by
  intro m
  induction m with
  | zero => intro _; simp [pairsTo]
  | succ m ih =>
    intro hm
    have := ih (by omega)
    rw [pairsTo_succ, List.length_append, limItems_length, pairsAt_alike (by omega) n (Nat.le_refl _)]
    have e1 : (m + 1) * (m + 1) = m * m + 2 * m + 1 := by rw [Nat.add_mul, Nat.mul_add]; omega
    have e2 : 2 * (m + 1) * n = 2 * m * n + 2 * n := by rw [Nat.mul_add, Nat.add_mul]
    rw [e1, e2]
    omega
theorem cls_alike {n : Nat} : (allCls (limItems true n) (limWants n) 0).length = n * (n - 1) / 2 + 1 := by
  unfold allCls headCls
  rw [wcls_lim, List.length_append, limItems_length]
  have := pairsTo_alike (n := n) n (Nat.le_refl _)
  have e : n * (n - 1) + n = n * n := by
    cases n with
    | zero => rfl
    | succ n => rw [Nat.add_sub_cancel, Nat.mul_succ (n + 1) n]
  have e3 : 2 * n * n = 2 * (n * n) := Nat.mul_assoc _ _ _
  simp only [List.length_cons, List.length_nil]
  omega
theorem u8_ne {a b : Nat} (h1 : a < 256) (h2 : b < 256) (h : UInt8.ofNat a = UInt8.ofNat b) : a = b := by
  have := congrArg UInt8.toNat h
  simpa [Nat.mod_eq_of_lt h1, Nat.mod_eq_of_lt h2] using this
theorem clsOf_inj {i k : Nat} (h1 : i < 1100) (h2 : k < 1100) (h : clsOf i = clsOf k) : i = k := by
  simp only [clsOf, ByteArray.mk.injEq, Array.mk.injEq, List.cons.injEq, and_true] at h
  obtain ⟨a, b, c⟩ := h
  have a' := u8_ne (by omega) (by omega) a
  have b' := u8_ne (by omega) (by omega) b
  have c' := u8_ne (by omega) (by omega) c
  omega
theorem cls_apart {n : Nat} (h : n ≤ 1024) : (allCls (limItems false n) (limWants n) 0).length = 1 := by
  unfold allCls headCls
  rw [wcls_lim, List.length_append, limItems_length]
  suffices hs : pairsTo (limItems false n) n = [] by rw [hs]; rfl
  apply List.eq_nil_iff_forall_not_mem.2
  intro c hc
  obtain ⟨i, k, h1, h2, h3, h4, _⟩ := mem_pairsTo hc
  rw [limItems_length] at h3
  rw [kAt_lim h1, kAt_lim h3] at h4
  simp only [limItem, Prod.mk.injEq, true_and] at h4
  have := clsOf_inj (by omega) (by omega) h4
  omega
theorem enc_big {a : Bool} {n : Nat} (h : 1024 < n) : encR (limItems a n) (limWants n) 0 = (0, [], 2) := by
  unfold encR
  rw [if_pos (by rw [lim_big h]; decide), lim_big h]; rfl
theorem enc_many {n : Nat} (h1 : 1 ≤ n) (h2 : n ≤ 1024) (h : 16384 < n * (n - 1) / 2 + 1) : encR (limItems true n) (limWants n) 0 = (0, [], 2) := by
  unfold encR
  rw [if_neg (by rw [lim_may h1 h2]; decide), cls_alike, if_pos h]
theorem enc_alike {n : Nat} (h1 : 1 ≤ n) (h2 : n ≤ 1024) (h : ¬ 16384 < n * (n - 1) / 2 + 1) : ∃ cls, encR (limItems true n) (limWants n) 0 = ((n : Int), cls, 0) ∧ cls.length = n * (n - 1) / 2 + 1 := by
  refine ⟨_, ?_, cls_alike⟩
  unfold encR
  rw [if_neg (by rw [lim_may h1 h2]; decide), if_neg (by rw [cls_alike]; exact h), limItems_length]
theorem enc_apart {n : Nat} (h1 : 1 ≤ n) (h2 : n ≤ 1024) : ∃ cls, encR (limItems false n) (limWants n) 0 = ((n : Int), cls, 0) ∧ cls.length = 1 := by
  refine ⟨_, ?_, cls_apart h2⟩
  unfold encR
  rw [if_neg (by rw [lim_may h1 h2]; decide), if_neg (by rw [cls_apart h2]; decide), limItems_length]
end Go.Proofs.Ytlaihjhkghbfkaa
