/- chars: references that are well formed. Plain. -/
import Derived.Test.YtnkbeaipgadphaaChD6
import Derived.Test.YtnkbeaipgadphaaChW12
namespace Go.Proofs.Ytnkbeaipgadphaa
open C01

theorem refR_named {s : ByteArray} {k : Nat} {r : List UInt8} (hk : k < 5) (hs : s.data.toList = 38 :: (fiveL k ++ 59 :: r)) : refR s = (wT k, ((wW k).size : Int), 0) := by
  have hpc := fun j (hj : j < 5) => pre_cons hs hj
  have hl : (fiveL k ++ [59]) <+: fiveL k ++ 59 :: r := ⟨r, by simp⟩
  obtain ⟨h1, h2, h3⟩ := q1 (fiveL_low hk) hl
  have hyes : pre s (wW k) = true := (hpc k hk).1.2 ⟨rfl, hl⟩
  have hf : ∀ j, j < 5 → wordF s j = none ∨ wordF s j = some (wT k, ((wW k).size : Int), 0) := fun j hj => by
    unfold wordF
    by_cases h : pre s (wW j) = true
    · right
      rw [if_pos h]
      obtain ⟨g1, g2, _⟩ := q1 (fiveL_low hj) ((hpc j hj).1.1 h).2
      rw [← g1, h1, h2] at g2
      rw [wW_len hk, wW_len hj, ← (named_five hk).1, ← (named_five hj).1, g2]
    · left
      rw [if_neg h, if_neg]
      intro h4
      rcases q3 ((hpc j hj).2.1 h4).2 with h5 | h5
      · have := low_all (fiveL_low hj) h5
        rw [h1] at this
        simp at this
      · exact h ((hpc j hj).1.2 ⟨rfl, h5 ▸ List.prefix_refl _⟩)
  rw [refR_same]
  have : refR2 s = (wT k, ((wW k).size : Int), 0) := by
    unfold refR2
    rw [firstN_const (x := (wT k, ((wW k).size : Int), 0)) hk (by unfold wordF; rw [if_pos hyes]) hf]
    rfl
  rw [this]; rfl
/-- the number of digits -/
def numV (base : Int) (l : List UInt8) : Int := l.foldl (fun a c => a * base + digI (c.toNat : Int) base) 0
theorem numV_snoc (base : Int) (l : List UInt8) (c : UInt8) : numV base (l ++ [c]) = numV base l * base + digI (c.toNat : Int) base := by
  unfold numV; rw [List.foldl_append]; rfl
theorem numK_V {base : Int} {s : ByteArray} : ∀ n : Nat, n ≤ s.size → numK base s n = numV base (s.data.toList.take n)
  | 0, _ => rfl
  | n + 1, h => by
    have h' : n < s.data.toList.length := by rw [Array.length_toList]; exact h
    rw [List.take_succ_eq_append_getElem h', numV_snoc, ← numK_V n (by omega)]
    show numK base s n * base + digI (byteN s n : Nat) base = _
    unfold byteN
    rw [List.getD_eq_getElem?_getD, List.getElem?_eq_getElem h']
    rfl
theorem span_end {p : Int → Bool} {D r : List UInt8} {c : UInt8} (h : ∀ x ∈ D, p (x.toNat : Int) = true) (hc : p (c.toNat : Int) = false) : spanN p (D ++ c :: r) = D.length := by
  induction D with
  | nil => unfold spanN; rw [List.nil_append, List.takeWhile_cons, if_neg (by rw [hc]; simp)]; first | done | rfl
  | cons a D ih =>
    have := ih fun x hx => h x (by simp [hx])
    unfold spanN at this ⊢
    rw [List.cons_append, List.takeWhile_cons, if_pos (h a (by simp)), List.length_cons, this, List.length_cons]
theorem dig59 {base : Int} (h : base = 10 ∨ base = 16) : digB base ((59 : UInt8).toNat : Int) = false := by
  rcases h with rfl | rfl <;> decide
theorem numR_good {s : ByteArray} {D r : List UInt8} {ahead base : Int} (hb : base = 10 ∨ base = 16) (hs : s.data.toList = D ++ 59 :: r) (hD : ∀ x ∈ D, digB base (x.toNat : Int) = true) (h1 : 1 ≤ D.length) (h8 : D.length ≤ 8) (hl : letterOk (numV base D) = true) :
    numR s ahead base = (letterS (numV base D), ahead + D.length + 1, 0) := by
  have hsp : spanN (digB base) s.data.toList = D.length := by rw [hs]; exact span_end hD (dig59 hb)
  have hsz := size_of hs
  rw [List.length_append, List.length_cons] at hsz
  have hk : numK base s D.length = numV base D := by rw [numK_V _ (by omega), hs]; simp
  have hby : byteN s D.length = 59 := by unfold byteN; rw [hs]; simp
  unfold numR
  rw [hsp, if_neg (by omega), if_neg (by omega), if_neg (by rw [hby]; omega), hk, if_pos hl]
theorem refR_dec {s : ByteArray} {D r : List UInt8} (hs : s.data.toList = 38 :: 35 :: (D ++ 59 :: r)) (hD : ∀ x ∈ D, digB 10 (x.toNat : Int) = true) (h1 : 1 ≤ D.length) (h8 : D.length ≤ 8) (hl : letterOk (numV 10 D) = true) :
    refR s = (letterS (numV 10 D), (D.length : Int) + 3, 0) := by
  have ht : (s.extract 2 s.size).data.toList = D ++ 59 :: r := by
    rw [ByteArray.data_extract, Array.toList_extract, List.extract_eq_take_drop, hs, List.drop_succ_cons, List.drop_succ_cons, List.drop_zero]
    exact List.take_of_length_le (by have := size_of hs; simp at this ⊢; omega)
  have hne : ¬ s = ⟨#[]⟩ := by rintro rfl; cases hs
  have hx : ¬ Lib.hasPrefix (s.extract 2 s.size).data.toList [120] = true := by
    rw [ht]
    unfold Lib.hasPrefix
    rw [List.isPrefixOf_iff_prefix]
    match D, h1, hD with
    | a :: D, _, hD =>
      intro h
      have := (List.cons_prefix_cons.1 h).1
      have h2 := hD a (by simp)
      rw [← this] at h2
      exact absurd h2 (by decide)
  unfold refR
  rw [if_neg hne, if_neg (by rw [byte0 hs]; decide), if_pos (by rw [hs]; rfl)]
  unfold numberR
  rw [if_neg hx, numR_good (.inl rfl) ht hD h1 h8 hl]
  congr 2
  omega
theorem refR_hex {s : ByteArray} {D r : List UInt8} (hs : s.data.toList = 38 :: 35 :: 120 :: (D ++ 59 :: r)) (hD : ∀ x ∈ D, digB 16 (x.toNat : Int) = true) (h1 : 1 ≤ D.length) (h8 : D.length ≤ 8) (hl : letterOk (numV 16 D) = true) :
    refR s = (letterS (numV 16 D), (D.length : Int) + 4, 0) := by
  have hz := size_of hs
  simp only [List.length_cons, List.length_append] at hz
  have ht : (s.extract 2 s.size).data.toList = 120 :: (D ++ 59 :: r) := by
    rw [ByteArray.data_extract, Array.toList_extract, List.extract_eq_take_drop, hs, List.drop_succ_cons, List.drop_succ_cons, List.drop_zero]
    exact List.take_of_length_le (by simp; omega)
  have ht3 : (s.extract 3 s.size).data.toList = D ++ 59 :: r := by
    rw [ByteArray.data_extract, Array.toList_extract, List.extract_eq_take_drop, hs, List.drop_succ_cons, List.drop_succ_cons, List.drop_succ_cons, List.drop_zero]
    exact List.take_of_length_le (by simp; omega)
  have hne : ¬ s = ⟨#[]⟩ := by rintro rfl; cases hs
  unfold refR
  rw [if_neg hne, if_neg (by rw [byte0 hs]; decide), if_pos (by rw [hs]; rfl)]
  unfold numberR
  rw [if_pos (by rw [ht]; rfl), ext2 (by omega), numR_good (.inr rfl) ht3 hD h1 h8 hl]
  congr 2
  omega
/-- a digit's byte -/
def chB (d : Nat) : UInt8 := if d < 10 then UInt8.ofNat (48 + d) else UInt8.ofNat (87 + d)
theorem chB_dig : ∀ d : Fin 16, digI ((chB d.val).toNat : Int) 16 = d.val := by decide +kernel
theorem chB_dig10 : ∀ d : Fin 10, digI ((chB d.val).toNat : Int) 10 = d.val := by decide +kernel
theorem chB_digI {b d : Nat} (hb : b = 10 ∨ b = 16) (hd : d < b) : digI ((chB d).toNat : Int) b = d := by
  rcases hb with rfl | rfl
  · exact chB_dig10 ⟨d, hd⟩
  · exact chB_dig ⟨d, hd⟩
/-- the digits of a number to a base; none: nought -/
def dgs (b : Nat) (k : Nat) : List UInt8 := if _h : k = 0 ∨ b < 2 then [] else dgs b (k / b) ++ [chB (k % b)]
termination_by k
decreasing_by exact Nat.div_lt_self (by omega) (by omega)
theorem dgs_zero (b : Nat) : dgs b 0 = [] := by rw [dgs, dif_pos (.inl rfl)]
theorem dgs_step {b k : Nat} (hb : b = 10 ∨ b = 16) (hk : 0 < k) : dgs b k = dgs b (k / b) ++ [chB (k % b)] := by rw [dgs, dif_neg (by omega)]
theorem dgs_num {b : Nat} (hb : b = 10 ∨ b = 16) (k : Nat) : numV b (dgs b k) = k := by
  induction k using Nat.strongRecOn with
  | ind k ih =>
    rcases Nat.eq_zero_or_pos k with rfl | hk
    · rw [dgs_zero]; rfl
    · rw [dgs_step hb hk, numV_snoc, ih (k / b) (Nat.div_lt_self hk (by omega)), chB_digI hb (Nat.mod_lt _ (by omega))]
      have := Nat.div_add_mod k b
      rw [Int.mul_comm]
      exact_mod_cast this
theorem dgs_all {b : Nat} (hb : b = 10 ∨ b = 16) (k : Nat) : ∀ x ∈ dgs b k, digB b (x.toNat : Int) = true := by
  induction k using Nat.strongRecOn with
  | ind k ih =>
    rcases Nat.eq_zero_or_pos k with rfl | hk
    · rw [dgs_zero]; simp
    · rw [dgs_step hb hk]
      intro x hx
      rcases List.mem_append.1 hx with h | h
      · exact ih (k / b) (Nat.div_lt_self hk (by omega)) x h
      · rw [List.mem_singleton] at h
        subst h
        unfold digB
        rw [chB_digI hb (Nat.mod_lt _ (by omega))]
        simp
        omega
theorem dgs_len {b : Nat} (hb : b = 10 ∨ b = 16) : ∀ (j k : Nat), k < b ^ j → (dgs b k).length ≤ j
  | 0, k, h => by simp at h; subst h; rw [dgs_zero]; simp
  | j + 1, k, h => by
    rcases Nat.eq_zero_or_pos k with rfl | hk
    · rw [dgs_zero]; simp
    · rw [dgs_step hb hk, List.length_append]
      have : k / b < b ^ j := by rw [Nat.div_lt_iff_lt_mul (by omega)]; rwa [Nat.pow_succ] at h
      have := dgs_len hb j (k / b) this
      simp
      omega
theorem dgs_pos {b k : Nat} (hb : b = 10 ∨ b = 16) (hk : 0 < k) : 1 ≤ (dgs b k).length := by rw [dgs_step hb hk]; simp
end Go.Proofs.Ytnkbeaipgadphaa
