/- texts and keys, compared. Plain. -/
import Derived.Test.YtldhgdoeehnbjaaDoorCoD3
import Derived.Lib.Bytealg
namespace Go.Proofs.YtldhgdoeehnbjaaDoor
open Go.RowKit

abbrev cb := Lib.compareBytes
theorem cb_cons (x y : UInt8) (a b : List UInt8) : cb (x :: a) (y :: b) = if x < y then -1 else if y < x then 1 else cb a b := rfl
theorem cb_range (a b : List UInt8) : cb a b = -1 ∨ cb a b = 0 ∨ cb a b = 1 := by
  induction a generalizing b with
  | nil => cases b <;> simp [cb, Lib.compareBytes]
  | cons x a ih =>
    cases b with
    | nil => simp [cb, Lib.compareBytes]
    | cons y b =>
      unfold cb Lib.compareBytes
      repeat' split
      · simp
      · simp
      · exact ih b
theorem cb_zero {a b : List UInt8} : cb a b = 0 ↔ a = b := by
  induction a generalizing b with
  | nil => cases b <;> simp [cb, Lib.compareBytes]
  | cons x a ih =>
    cases b with
    | nil => simp [cb, Lib.compareBytes]
    | cons y b =>
      unfold cb Lib.compareBytes
      by_cases h1 : x < y
      · rw [if_pos h1]
        simp only [List.cons.injEq]
        constructor
        · intro h; cases h
        · rintro ⟨rfl, _⟩; exact absurd h1 (by rw [UInt8.lt_iff_toNat_lt]; omega)
      · rw [if_neg h1]
        by_cases h2 : y < x
        · rw [if_pos h2]
          simp only [List.cons.injEq]
          constructor
          · intro h; cases h
          · rintro ⟨rfl, _⟩; exact absurd h2 (by rw [UInt8.lt_iff_toNat_lt]; omega)
        · rw [if_neg h2]
          have e : x = y := by
            apply UInt8.toNat_inj.1
            rw [UInt8.lt_iff_toNat_lt] at h1 h2
            omega
          subst e
          simp only [List.cons.injEq, true_and]
          exact ih
theorem cb_neg (a b : List UInt8) : cb b a = - cb a b := by
  induction a generalizing b with
  | nil => cases b <;> simp [cb, Lib.compareBytes]
  | cons x a ih =>
    cases b with
    | nil => simp [cb, Lib.compareBytes]
    | cons y b =>
      have := ih b
      rw [cb_cons, cb_cons]
      by_cases h1 : x < y
      · have h2 : ¬ y < x := by rw [UInt8.lt_iff_toNat_lt] at *; omega
        rw [if_neg h2, if_pos h1, if_pos h1]; rfl
      · by_cases h2 : y < x
        · rw [if_pos h2, if_neg h1, if_pos h2]
        · rw [if_neg h2, if_neg h1, if_neg h1, if_neg h2]; exact this
theorem cb_trans {a b c : List UInt8} (h1 : cb a b = -1) (h2 : cb b c = -1) : cb a c = -1 := by
  induction a generalizing b c with
  | nil =>
    cases b with
    | nil => simp [cb, Lib.compareBytes] at h1
    | cons y b =>
      cases c with
      | nil => simp [cb, Lib.compareBytes] at h2
      | cons z c => rfl
  | cons x a ih =>
    cases b with
    | nil => simp [cb, Lib.compareBytes] at h1
    | cons y b =>
      cases c with
      | nil => simp [cb, Lib.compareBytes] at h2
      | cons z c =>
        rw [cb_cons] at h1 h2 ⊢
        by_cases a1 : x < y
        · by_cases a2 : y < z
          · have : x < z := by rw [UInt8.lt_iff_toNat_lt] at *; omega
            rw [if_pos this]
          · by_cases a3 : z < y
            · rw [if_neg a2, if_pos a3] at h2; cases h2
            · have : x < z := by rw [UInt8.lt_iff_toNat_lt] at *; omega
              rw [if_pos this]
        · by_cases b1 : y < x
          · rw [if_neg a1, if_pos b1] at h1; cases h1
          · rw [if_neg a1, if_neg b1] at h1
            have e : x = y := by apply UInt8.toNat_inj.1; rw [UInt8.lt_iff_toNat_lt] at a1 b1; omega
            subst e
            by_cases a2 : x < z
            · rw [if_pos a2]
            · by_cases a3 : z < x
              · rw [if_neg a2, if_pos a3] at h2; cases h2
              · rw [if_neg a2, if_neg a3] at h2 ⊢
                exact ih h1 h2
/-- rows of texts, compared -/
def cmpT : List (List UInt8) → List (List UInt8) → Int
  | a :: x, b :: y => if cb a b = 0 then cmpT x y else cb a b
  | _, _ => 0
theorem cmpT_range : ∀ (x y : List (List UInt8)), cmpT x y = -1 ∨ cmpT x y = 0 ∨ cmpT x y = 1
  | [], _ => by simp [cmpT]
  | _ :: _, [] => by simp [cmpT]
  | a :: x, b :: y => by
    unfold cmpT
    split
    · exact cmpT_range x y
    · exact cb_range a b
theorem cmpT_neg : ∀ (x y : List (List UInt8)), cmpT y x = - cmpT x y
  | [], [] => rfl
  | [], _ :: _ => rfl
  | _ :: _, [] => rfl
  | a :: x, b :: y => by
    have h := cb_neg a b
    unfold cmpT
    by_cases h0 : cb a b = 0
    · rw [if_pos h0, if_pos (by omega)]; exact cmpT_neg x y
    · rw [if_neg h0, if_neg (by omega)]; exact h
theorem cmpT_zero : ∀ {x y : List (List UInt8)}, x.length = y.length → (cmpT x y = 0 ↔ x = y)
  | [], [], _ => by simp [cmpT]
  | [], _ :: _, h => by simp at h
  | _ :: _, [], h => by simp at h
  | a :: x, b :: y, h => by
    have ih := cmpT_zero (x := x) (y := y) (by simpa using h)
    unfold cmpT
    by_cases h0 : cb a b = 0
    · rw [if_pos h0, ih, cb_zero.1 h0]; simp
    · rw [if_neg h0]
      constructor
      · intro h'; exact absurd h' h0
      · intro h'; exact absurd (cb_zero.2 (List.cons.inj h').1) h0
theorem cmpT_trans : ∀ {x y z : List (List UInt8)}, x.length = y.length → y.length = z.length → cmpT x y ≤ 0 → cmpT y z ≤ 0 → cmpT x z ≤ 0
  | [], _, _, _, _, _, _ => by simp [cmpT]
  | _ :: _, [], _, h, _, _, _ => by simp at h
  | _ :: _, _ :: _, [], _, h, _, _ => by simp at h
  | a :: x, b :: y, c :: z, h1, h2, h3, h4 => by
    have ih := cmpT_trans (x := x) (y := y) (z := z) (by simpa using h1) (by simpa using h2)
    have r1 := cb_range a b
    have r2 := cb_range b c
    unfold cmpT at h3 h4 ⊢
    by_cases e1 : cb a b = 0
    · obtain rfl := cb_zero.1 e1
      rw [if_pos e1] at h3
      by_cases e2 : cb a c = 0
      · rw [if_pos e2] at h4 ⊢; exact ih h3 h4
      · rw [if_neg e2] at h4 ⊢; exact h4
    · rw [if_neg e1] at h3
      by_cases e2 : cb b c = 0
      · obtain rfl := cb_zero.1 e2
        rw [if_neg e1]; exact h3
      · rw [if_neg e2] at h4
        have := cb_trans (a := a) (b := b) (c := c) (by omega) (by omega)
        rw [this, if_neg (by omega)]; omega
theorem less_cb : ∀ (a b : List UInt8), Op.bytesLess a b = decide (cb a b = -1)
  | [], [] => by simp [Op.bytesLess, cb, Lib.compareBytes]
  | _ :: _, [] => by simp [Op.bytesLess, cb, Lib.compareBytes]
  | [], _ :: _ => by simp [Op.bytesLess, cb, Lib.compareBytes]
  | x :: a, y :: b => by
    have ih := less_cb a b
    unfold Op.bytesLess cb Lib.compareBytes
    rw [ih]
    by_cases h1 : x < y
    · simp [h1]
    · by_cases h2 : y < x
      · have hne : ¬ x = y := by rintro rfl; exact h1 h2
        simp [h1, h2, hne]
      · have e : x = y := by apply UInt8.toNat_inj.1; rw [UInt8.lt_iff_toNat_lt] at h1 h2; omega
        simp [e]
end Go.Proofs.YtldhgdoeehnbjaaDoor
