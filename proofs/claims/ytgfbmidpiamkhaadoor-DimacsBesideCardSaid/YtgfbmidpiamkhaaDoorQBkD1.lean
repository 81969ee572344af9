/- What is printed is parsed as the same: numbers, clauses. Plain. -/
import Derived.Test.YtgfbmidpiamkhaaDoorQDiW10
import Derived.Test.YtgfbmidpiamkhaaDoorZf
namespace Go.Proofs.YtgfbmidpiamkhaaDoor
namespace D28

theorem digL_step {n : Nat} (h : 10 ≤ n) : digL n = digL (n / 10) ++ [UInt8.ofNat (48 + n % 10)] := by
  unfold digL
  rw [rdN_eq n, if_pos h]; simp
theorem digL_one {n : Nat} (h : n < 10) : digL n = [UInt8.ofNat (48 + n)] := by
  unfold digL
  rw [rdN_eq n, if_neg (by omega), Nat.mod_eq_of_lt h]; rfl
theorem ofDig {k : Nat} (h : k < 10) : (UInt8.ofNat (48 + k)).toNat = 48 + k := by
  rw [UInt8.toNat_ofNat']; omega
theorem numOf_snoc (a : Bs) (c : UInt8) : numOf (a ++ [c]) = 10 * numOf a + (c.toNat - 48) := by
  unfold numOf
  rw [List.foldl_append]; rfl
theorem digL_num (n : Nat) : numOf (digL n) = n ∧ (digL n).all digU = true ∧ digL n ≠ [] ∧ (0 < n → (digL n).head? ≠ some 48) := by
  induction n using Nat.strongRecOn with
  | _ n ih =>
    by_cases h : 10 ≤ n
    · obtain ⟨h1, h2, h3, h4⟩ := ih (n / 10) (by omega)
      have hd := ofDig (k := n % 10) (by omega)
      rw [digL_step h]
      refine ⟨?_, ?_, by simp, fun _ => ?_⟩
      · rw [numOf_snoc, h1, hd]; omega
      · rw [List.all_append, h2]
        simp only [List.all_cons, List.all_nil, Bool.and_true, Bool.true_and]
        unfold digU
        rw [hd]; simp; omega
      · obtain ⟨c, r, hc⟩ := List.exists_cons_of_ne_nil h3
        have h5 := h4 (by omega)
        rw [hc] at h5 ⊢
        exact h5
    · have hd := ofDig (k := n) (by omega)
      rw [digL_one (by omega)]
      refine ⟨?_, ?_, by simp, fun hp => ?_⟩
      · show 10 * 0 + ((UInt8.ofNat (48 + n)).toNat - 48) = n
        rw [hd]; omega
      · simp only [List.all_cons, List.all_nil, Bool.and_true]
        unfold digU
        rw [hd]; simp; omega
      · intro e
        simp only [List.head?_cons, Option.some.injEq] at e
        have := congrArg UInt8.toNat e
        rw [hd] at this
        have e48 : (48 : UInt8).toNat = 48 := rfl
        omega
theorem digL_short (k : Nat) : ∀ n, n < 10 ^ (k + 1) → (digL n).length ≤ k + 1 := by
  induction k with
  | zero => intro n h; rw [digL_one (by simpa using h)]; simp
  | succ k ih =>
    intro n h
    by_cases h10 : 10 ≤ n
    · rw [digL_step h10]
      have := ih (n / 10) (by rw [Nat.pow_succ] at h; omega)
      simp; omega
    · rw [digL_one (by omega)]; simp
theorem digL_mem {n : Nat} {c : UInt8} (h : c ∈ digL n) : 48 ≤ c.toNat ∧ c.toNat ≤ 57 := by
  have := List.all_eq_true.1 (digL_num n).2.1 c h
  simpa [digU] using this
theorem parse_num {x : Int} (h : okN x) : parseL (numL x) = some x := by
  obtain ⟨h1, h2⟩ := h
  unfold numL
  by_cases hx : x < 0
  · rw [if_pos hx]
    obtain ⟨n1, n2, n3, n4⟩ := digL_num (-x).toNat
    have hl := digL_short 8 (-x).toNat (by show _ < 1000000000; omega)
    show parseD true (digL (-x).toNat) = some x
    unfold parseD
    rw [if_neg]
    · rw [if_pos n2, n1, if_pos rfl]; congr 1; omega
    · rintro (h | h | h)
      · exact n3 h
      · omega
      · exact n4 (by omega) h.1
  · rw [if_neg hx]
    obtain ⟨n1, n2, n3, n4⟩ := digL_num x.toNat
    have hl := digL_short 8 x.toNat (by show _ < 1000000000; omega)
    have hp : parseL (digL x.toNat) = parseD false (digL x.toNat) := by
      obtain ⟨c, r, hc⟩ := List.exists_cons_of_ne_nil n3
      have hm := digL_mem (n := x.toNat) (c := c) (by rw [hc]; simp)
      rw [hc]
      unfold parseL
      split
      · rename_i e; simp only [List.cons.injEq] at e
        have e45 : (45 : UInt8).toNat = 45 := rfl
        rw [e.1, e45] at hm; omega
      · rfl
    rw [hp]
    unfold parseD
    rw [if_neg]
    · rw [if_pos n2, n1, if_neg (by simp)]; congr 1; omega
    · rintro (h | h | h)
      · exact n3 h
      · omega
      · rcases h with ⟨ha, hb | hb⟩
        · have hx0 : 0 < x.toNat := by
            rcases Nat.eq_zero_or_pos x.toNat with h0 | h0
            · rw [h0, digL_one (by omega)] at hb; simp at hb
            · exact h0
          exact n4 hx0 ha
        · cases hb
/-- no blank and no letter in a number's text -/
theorem numL_mem {x : Int} {c : UInt8} (h : c ∈ numL x) : blankU c = false ∧ c ≠ 99 ∧ c ≠ 10 ∧ c ≠ 32 := by
  have key : ∀ n : Nat, n = 45 ∨ (48 ≤ n ∧ n ≤ 57) → c.toNat = n → blankU c = false ∧ c ≠ 99 ∧ c ≠ 10 ∧ c ≠ 32 := by
    intro n hn he
    have k : ∀ (d : UInt8) (m : Nat), d.toNat = m → n ≠ m → c ≠ d := by
      intro d m e1 e2 e3; subst e3; omega
    have a1 := k 32 32 rfl (by omega)
    have a2 := k 9 9 rfl (by omega)
    have a3 := k 10 10 rfl (by omega)
    have a4 := k 13 13 rfl (by omega)
    have a5 := k 99 99 rfl (by omega)
    exact ⟨by unfold blankU; simp [a1, a2, a3, a4], a5, a3, a1⟩
  unfold numL at h
  split at h
  · rcases List.mem_cons.1 h with rfl | h
    · exact key 45 (.inl rfl) rfl
    · exact key _ (.inr (digL_mem h)) rfl
  · exact key _ (.inr (digL_mem h)) rfl
theorem numL_ne (x : Int) : numL x ≠ [] := by
  unfold numL
  split
  · simp
  · exact (digL_num _).2.2.1

/-! ### Words, whatever lies between them -/
/-- the words of clauses -/
def toks (l : List (List Int)) : List Bs := l.flatMap fun c => c.map numL ++ [[48]]
theorem wordsG_clause {most vars : Int} (c : List Int) (hc : ∀ n ∈ c, n ≠ 0 ∧ okN n ∧ (0 ≤ vars → n ≤ vars ∧ -n ≤ vars)) (rest : List Bs) : ∀ (d : List (List Int)) (p : List Int), wordsG most vars (d ++ [p], true) (c.map numL ++ [48] :: rest) = wordsG most vars (d ++ [p ++ c], false) rest := by
  induction c with
  | nil =>
    intro d p
    rw [List.map_nil, List.nil_append, wordsG_cons, show parseL [48] = some 0 by decide +kernel]
    simp [takeG]
  | cons n c ih =>
    intro d p
    obtain ⟨h1, h2, h3⟩ := hc n (by simp)
    rw [List.map_cons, List.cons_append, wordsG_cons, parse_num h2]
    have e : takeG most vars (d ++ [p], true) n = ((d ++ [p ++ [n]], true), 0) := by
      unfold takeG
      rw [if_neg (by simp)]
      simp only [if_true]
      rw [if_neg h1, if_neg (by omega)]
      simp [pushLast]
    dsimp only
    rw [e]
    dsimp only
    rw [ih (fun m hm => hc m (by simp [hm])) d (p ++ [n]), List.append_assoc]; rfl
theorem wordsG_toks {most vars : Int} (l : List (List Int)) (hl : ∀ c ∈ l, ∀ n ∈ c, n ≠ 0 ∧ okN n ∧ (0 ≤ vars → n ≤ vars ∧ -n ≤ vars)) : ∀ (d : List (List Int)), (d.length + l.length : Nat) ≤ most → wordsG most vars (d, false) (toks l) = ((d ++ l, false), 0) := by
  induction l with
  | nil => intro d _; simp [toks, wordsG]
  | cons c l ih =>
    intro d hd
    have ih' := ih (fun x hx => hl x (by simp [hx])) (d ++ [c]) (by simp at hd ⊢; omega)
    have e : toks (c :: l) = c.map numL ++ [48] :: toks l := by simp [toks]
    have hlt : ¬ (most ≤ (d.length : Int)) := by simp at hd; omega
    rw [e]
    cases c with
    | nil =>
      rw [List.map_nil, List.nil_append, wordsG_cons, show parseL [48] = some 0 by decide +kernel]
      have e2 : takeG most vars (d, false) 0 = ((d ++ [[]], false), 0) := by
        unfold takeG
        rw [if_neg (by simp; omega)]; simp
      dsimp only; rw [e2]; dsimp only
      rw [ih']; simp
    | cons n c =>
      obtain ⟨h1, h2, h3⟩ := hl (n :: c) (by simp) n (by simp)
      rw [List.map_cons, List.cons_append, wordsG_cons, parse_num h2]
      have e2 : takeG most vars (d, false) n = ((d ++ [[n]], true), 0) := by
        unfold takeG
        rw [if_neg (by simp; omega)]
        simp only [Bool.false_eq_true, if_false]
        rw [if_neg h1, if_neg (by omega)]
        simp [pushLast]
      dsimp only; rw [e2]; dsimp only
      rw [wordsG_clause c (fun m hm => hl (n :: c) (by simp) m (by simp [hm])) (toks l) d [n]]
      show wordsG most vars (d ++ [n :: c], false) (toks l) = _
      rw [ih']; simp
/-- what the lines tell is what their words tell, one behind the other -/
theorem linesG_flat {most vars : Int} : ∀ (L : List Ln) (g g' : GS), wordsG most vars g (L.flatMap Prod.snd) = (g', 0) → linesG most vars g L = (g', 0, 0)
  | [], g, g', h => by simp [wordsG] at h; subst h; rfl
  | (n, ws) :: L, g, g', h => by
    rw [List.flatMap_cons, wordsG_append] at h
    rw [linesG_cons]
    dsimp only at h
    rcases hw : wordsG most vars g ws with ⟨g2, _ | k⟩
    · rw [hw] at h
      exact linesG_flat L g2 g' h
    · rw [hw] at h; simp at h
end D28
end Go.Proofs.YtgfbmidpiamkhaaDoor
