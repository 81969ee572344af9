/- The pigeons, plain: the clauses in the law's order, and what the solver finds. -/
import Derived.Test.YtdepdceaojenoaaZe
import Derived.Test.YtdepdceaojenoaaZk
namespace Go.Proofs.Ytdepdceaojenoaa
/-- a bird's holes, up to h -/
def pgRow (n b : Nat) : Nat → List Int
  | 0 => []
  | h + 1 => pgRow n b h ++ [((b * n + h + 1 : Nat) : Int)]
def pgRows (n : Nat) : Nat → List (List Int)
  | 0 => []
  | b + 1 => pgRows n b ++ [pgRow n b n]
def pgIn (n h b : Nat) (l : List (List Int)) : Nat → List (List Int)
  | 0 => l
  | c + 1 => pgIn n h b l c ++ [[-((b * n + h + 1 : Nat) : Int), -((c * n + h + 1 : Nat) : Int)]]
def pgBs (n h : Nat) (l : List (List Int)) : Nat → List (List Int)
  | 0 => l
  | b + 1 => pgIn n h b (pgBs n h l b) b
def pgHs (n bs : Nat) (l : List (List Int)) : Nat → List (List Int)
  | 0 => l
  | h + 1 => pgBs n h (pgHs n bs l h) bs
def pgAll (n bs : Nat) : List (List Int) := pgHs n bs (pgRows n bs) n
/-- the answer's kind -/
def kindS : Option SAns → Nat
  | none => 0
  | some (.opn _) => 3
  | some (.unsat _ _) => 2
  | some (.sat _ _) => 1
theorem pgRow_len (n b h : Nat) : (pgRow n b h).length = h := by
  induction h with
  | zero => rfl
  | succ h ih => rw [pgRow, List.length_append, ih]; rfl
theorem pgRows_len (n b : Nat) : (pgRows n b).length = b := by
  induction b with
  | zero => rfl
  | succ b ih => rw [pgRows, List.length_append, ih]; rfl
theorem pgIn_len (n h b : Nat) (l : List (List Int)) (c : Nat) : (pgIn n h b l c).length = l.length + c := by
  induction c with
  | zero => rfl
  | succ c ih => rw [pgIn, List.length_append, ih]; rfl
theorem pgBs_len (n h : Nat) (l : List (List Int)) {b : Nat} (hb : b ≤ 5) : (pgBs n h l b).length ≤ l.length + 5 * b := by
  induction b with
  | zero => exact Nat.le_add_right _ _
  | succ b ih => rw [pgBs, pgIn_len]; have := ih (by omega); omega
theorem pgHs_len (n bs : Nat) (l : List (List Int)) (hb : bs ≤ 5) (h : Nat) : (pgHs n bs l h).length ≤ l.length + 25 * h := by
  induction h with
  | zero => exact Nat.le_add_right _ _
  | succ h ih => rw [pgHs]; have := pgBs_len n h (pgHs n bs l h) hb; omega
theorem pg_may (n : Nat) (full : Bool) (h1 : 1 ≤ n) (h4 : n ≤ 4) : satMayN ((if full then n + 1 else n) * n) (pgAll n (if full then n + 1 else n)) = 0 := by
  have : n = 1 ∨ n = 2 ∨ n = 3 ∨ n = 4 := by omega
  rcases this with rfl | rfl | rfl | rfl <;> cases full <;> decide +kernel
theorem pg_kind (n : Nat) (full : Bool) (h1 : 1 ≤ n) (h4 : n ≤ 4) : kindS (solveS ((if full then n + 1 else n) * n) (pgAll n (if full then n + 1 else n)) 1048576 500) = if full then 2 else 1 := by
  have : n = 1 ∨ n = 2 ∨ n = 3 ∨ n = 4 := by omega
  rcases this with rfl | rfl | rfl | rfl <;> cases full <;> decide +kernel
end Go.Proofs.Ytdepdceaojenoaa
