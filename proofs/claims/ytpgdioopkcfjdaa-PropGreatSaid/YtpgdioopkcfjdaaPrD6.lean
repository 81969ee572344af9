/- Properties that double one another. Plain. -/
import Derived.Test.YtpgdioopkcfjdaaPrD5
namespace Go.Proofs.Ytpgdioopkcfjdaa

theorem lookP_range (f : Nat → Bs) (g : Nat → Bs) (k : Nat) : ∀ n, k < n → (∀ i, i < n → f i = f k → i = k) → lookP ((List.range n).map fun i => (f i, g i)) (f k) = some (g k) := by
  intro n
  induction n with
  | zero => intro h; omega
  | succ n ih =>
    intro hk hf
    rw [List.range_succ, List.map_append, lookP_append]
    rcases Nat.lt_or_ge k n with h | h
    · rw [ih h fun i hi => hf i (by omega)]; rfl
    · obtain rfl : k = n := by omega
      have h1 : lookP ((List.range k).map fun i => (f i, g i)) (f k) = none := by
        unfold lookP
        rw [List.find?_eq_none.2]
        · rfl
        · intro x hx
          obtain ⟨i, hi, rfl⟩ := List.mem_map.1 hx
          have hi' := List.mem_range.1 hi
          simp only [beq_iff_eq]
          intro e
          have := hf i (by omega) e
          omega
      rw [h1]
      simp [lookP]
theorem digs_inj : ∀ i j, i < 40 → j < 40 → digs (i + 1) = digs (j + 1) → i = j := by
  have h : ((List.range 40).all fun i => (List.range 40).all fun j => !(digs (i + 1) == digs (j + 1)) || i == j) = true := by decide +kernel
  intro i j hi hj e
  have h1 := List.all_eq_true.1 (List.all_eq_true.1 h i (List.mem_range.2 hi)) j (List.mem_range.2 hj)
  rw [e] at h1
  simpa using h1
theorem digs_no : ∀ i, i < 40 → ¬ (125 : UInt8) ∈ digs (i + 1) := by
  have h : ((List.range 40).all fun i => !(digs (i + 1)).contains 125) = true := by decide +kernel
  intro i hi e
  have h1 := List.all_eq_true.1 h i (List.mem_range.2 hi)
  simp at h1
  exact h1 e
theorem findShut_app {a r : Bs} (h : ¬ (125 : UInt8) ∈ a) : findShut (a ++ 125 :: r) = some (a, r) := by
  induction a with
  | nil => rfl
  | cons c a ih =>
    simp only [List.mem_cons, not_or] at h
    rw [List.cons_append, findShut, if_neg (fun e => h.1 e.symm), ih h.2]; rfl
theorem cutP_ref (k : Nat) (hk : k < 40) (r : Bs) : cutP (refTo (k + 1) ++ r) = some ([], digs (k + 1), r) := by
  unfold cutP refTo
  have h1 : findOpen ((36 :: 123 :: (digs (k + 1) ++ [125])) ++ r) = some ([], digs (k + 1) ++ 125 :: r) := by
    rw [List.cons_append, List.cons_append, findOpen, if_pos ⟨rfl, rfl⟩]; simp
  rw [h1]
  dsimp only
  rw [findShut_app (digs_no k hk)]
def gV (v : Bs) : Nat → Bs
  | 0 => v
  | i + 1 => refTo (i + 1) ++ refTo (i + 1)
def greatL (n : Nat) (v : Bs) : PL := (List.range (n + 1)).map fun i => (digs (i + 1), gV v i)
def rep (v : Bs) : Nat → Bs
  | 0 => v
  | i + 1 => rep v i ++ rep v i
theorem rep_length (v : Bs) (k : Nat) : (rep v k).length = 2 ^ k * v.length := by
  induction k with
  | zero => simp [rep]
  | succ k ih => rw [rep, List.length_append, ih, Nat.pow_succ, Nat.mul_comm (2 ^ k) 2, Nat.mul_assoc]; omega
def doneTo (v : Bs) (k : Nat) : PL := (List.range k).map fun i => (digs (i + 1), rep v i)
theorem doneTo_look (v : Bs) (k : Nat) (hk : k < 40) : lookP (doneTo v (k + 1)) (digs (k + 1)) = some (rep v k) :=
  lookP_range (fun i => digs (i + 1)) (rep v) k (k + 1) (by omega) fun i hi e => digs_inj i k (by omega) hk e
theorem greatL_look (n : Nat) (v : Bs) (k : Nat) (hk : k ≤ n) (hn : n < 40) : lookP (greatL n v) (digs (k + 1)) = some (gV v k) :=
  lookP_range (fun i => digs (i + 1)) (gV v) k (n + 1) (by omega) fun i hi e => digs_inj i k (by omega) (by omega) e
theorem cutP_short {v : Bs} (h : v.length ≤ 1) : cutP v = none := by
  have : findOpen v = none := by
    match v, h with
    | [], _ => rfl
    | [c], _ => simp [findOpen]
  unfold cutP; rw [this]
/-- two references to k, when k is what `val` answers -/
theorem great_text {val : PL → Bs → Ans × PL} {n : Nat} {v : Bs} {me : Bs} {k : Nat} (hk : k ≤ n) (hn : n < 40) (h1 : val [] (digs (k + 1)) = (.ok (rep v k), doneTo v (k + 1))) (h2 : val (doneTo v (k + 1)) (digs (k + 1)) = (.ok (rep v k), doneTo v (k + 1))) (hl : (rep v k).length ≤ 4096) :
    txtP val (greatL n v) me [] [] (gV v (k + 1)) = if 4096 < (rep v (k + 1)).length then (.big me, doneTo v (k + 1)) else (.ok (rep v (k + 1)), doneTo v (k + 1)) := by
  have hs : (lookP (greatL n v) (digs (k + 1))).isSome = true := by rw [greatL_look n v k hk hn]; rfl
  show txtP val (greatL n v) me [] [] (refTo (k + 1) ++ refTo (k + 1)) = _
  rw [txtP_vo (cutP_ref k (by omega) _) (by simp) hs h1 (by simpa using hl)]
  have hc2 : cutP (refTo (k + 1)) = some ([], digs (k + 1), []) := by have := cutP_ref k (by omega) []; simpa using this
  have e : [] ++ [] ++ rep v k ++ [] ++ rep v k = rep v (k + 1) := by simp [rep]
  by_cases hg : 4096 < (rep v (k + 1)).length
  · rw [if_pos hg, txtP_vb hc2 (by simpa using hl) hs h2 (by rw [e]; exact hg)]
  · rw [if_neg hg, txtP_vo hc2 (by simpa using hl) hs h2 (by rw [e]; exact hg), e, txtP_none rfl, List.append_nil, if_neg hg]
theorem great_ok (n : Nat) (v : Bs) (hv : v.length ≤ 1) (hn : n < 40) : ∀ (k d : Nat) (way : List Bs), k ≤ n → k < d → (∀ i, i ≤ k → ¬ digs (i + 1) ∈ way) → 2 ^ k * v.length ≤ 4096 →
    valP (greatL n v) d way [] (digs (k + 1)) = (.ok (rep v k), doneTo v (k + 1)) := by
  intro k
  induction k with
  | zero =>
    intro d way hk hd hw hl
    obtain ⟨d, rfl⟩ : ∃ d', d = d' + 1 := ⟨d - 1, by omega⟩
    rw [valP_go rfl (hw 0 (by omega)), greatL_look n v 0 hk hn]
    show (match txtP _ _ _ [] [] v with | (.ok v, done') => _ | (x, done') => _) = _
    rw [txtP_none (cutP_short hv), if_neg (by simp; omega)]
    rfl
  | succ k ih =>
    intro d way hk hd hw hl
    obtain ⟨d, rfl⟩ : ∃ d', d = d' + 1 := ⟨d - 1, by omega⟩
    rw [valP_go rfl (hw (k + 1) (by omega)), greatL_look n v (k + 1) hk hn]
    have hl' : 2 ^ k * v.length ≤ 4096 := by rw [Nat.pow_succ, Nat.mul_comm (2 ^ k) 2, Nat.mul_assoc] at hl; omega
    have h1 := ih d (way ++ [digs (k + 1 + 1)]) (by omega) (by omega) (fun i hi hm => by
      rcases List.mem_append.1 hm with hm | hm
      · exact hw i (by omega) hm
      · simp at hm
        have := digs_inj i (k + 1) (by omega) (by omega) hm
        omega) hl'
    have h3 := great_text (val := fun done m => valP (greatL n v) d (way ++ [digs (k + 1 + 1)]) done m) (me := digs (k + 1 + 1)) (show k ≤ n by omega) hn h1 (valP_done (doneTo_look v k (by omega))) (by rw [rep_length]; exact hl')
    rw [Option.getD_some, h3, if_neg (by rw [rep_length]; omega)]
    unfold doneTo
    rw [List.range_succ (n := k + 1)]; simp
theorem great_big (n : Nat) (v : Bs) (hv : v.length = 1) (hn : n < 40) : ∀ (j d : Nat) (way : List Bs), 13 + j ≤ n → 13 + j < d → (∀ i, i ≤ 13 + j → ¬ digs (i + 1) ∈ way) →
    valP (greatL n v) d way [] (digs (13 + j + 1)) = (.big (digs 14), doneTo v 13) := by
  intro j
  induction j with
  | zero =>
    intro d way hk hd hw
    obtain ⟨d, rfl⟩ : ∃ d', d = d' + 1 := ⟨d - 1, by omega⟩
    rw [valP_go rfl (hw 13 (by omega)), greatL_look n v 13 (by omega) hn]
    have hl : 2 ^ 12 * v.length ≤ 4096 := by rw [hv]; decide
    have h1 := great_ok n v (by omega) hn 12 d (way ++ [digs (13 + 1)]) (by omega) (by omega) (fun i hi hm => by
      rcases List.mem_append.1 hm with hm | hm
      · exact hw i (by omega) hm
      · simp at hm
        have := digs_inj i 13 (by omega) (by omega) hm
        omega) hl
    have h3 := great_text (val := fun done m => valP (greatL n v) d (way ++ [digs (13 + 1)]) done m) (me := digs (13 + 1)) (show 12 ≤ n by omega) hn h1 (valP_done (doneTo_look v 12 (by omega))) (by rw [rep_length]; exact hl)
    rw [Option.getD_some, h3, if_pos (by rw [rep_length, hv]; decide)]
  | succ j ih =>
    intro d way hk hd hw
    obtain ⟨d, rfl⟩ : ∃ d', d = d' + 1 := ⟨d - 1, by omega⟩
    rw [show 13 + (j + 1) + 1 = 13 + j + 1 + 1 by omega]
    rw [valP_go rfl (hw (13 + j + 1) (by omega)), greatL_look n v (13 + j + 1) (by omega) hn]
    have h1 := ih d (way ++ [digs (13 + j + 1 + 1)]) (by omega) (by omega) (fun i hi hm => by
      rcases List.mem_append.1 hm with hm | hm
      · exact hw i (by omega) hm
      · simp at hm
        have := digs_inj i (13 + j + 1) (by omega) (by omega) hm
        omega)
    have hs : (lookP (greatL n v) (digs (13 + j + 1))).isSome = true := by rw [greatL_look n v (13 + j) (by omega) hn]; rfl
    rw [Option.getD_some]
    show (match txtP _ _ _ [] [] (refTo (13 + j + 1) ++ refTo (13 + j + 1)) with | (.ok v, done') => _ | (x, done') => _) = _
    rw [txtP_vg (cutP_ref (13 + j) (by omega) _) (by simp) hs h1]
/-- the text that asks for the last one -/
theorem great_top_ok (n : Nat) (v : Bs) (hv : v.length ≤ 1) (hn : n ≤ 30) (hl : 2 ^ n * v.length ≤ 4096) : txtP (fun done m => valP (greatL n v) 32 [] done m) (greatL n v) [] [] [] (refTo (n + 1)) = (.ok (rep v n), doneTo v (n + 1)) := by
  have hc : cutP (refTo (n + 1)) = some ([], digs (n + 1), []) := by have := cutP_ref n (by omega) []; simpa using this
  have hs : (lookP (greatL n v) (digs (n + 1))).isSome = true := by rw [greatL_look n v n (by omega) (by omega)]; rfl
  have h1 := great_ok n v hv (by omega) n 32 [] (by omega) (by omega) (fun _ _ h => by cases h) hl
  have hg : ¬ 4096 < (rep v n).length := by rw [rep_length]; omega
  rw [txtP_vo hc (by simp) hs h1 (by simpa using Nat.le_of_not_lt hg), txtP_none rfl]
  simp [hg]
theorem great_top_big (n : Nat) (v : Bs) (hv : v.length = 1) (hn : n ≤ 30) (hl : 12 < n) : txtP (fun done m => valP (greatL n v) 32 [] done m) (greatL n v) [] [] [] (refTo (n + 1)) = (.big (digs 14), doneTo v 13) := by
  have hc : cutP (refTo (n + 1)) = some ([], digs (n + 1), []) := by have := cutP_ref n (by omega) []; simpa using this
  have hs : (lookP (greatL n v) (digs (n + 1))).isSome = true := by rw [greatL_look n v n (by omega) (by omega)]; rfl
  obtain ⟨j, rfl⟩ : ∃ j, n = 13 + j := ⟨n - 13, by omega⟩
  have h1 := great_big (13 + j) v hv (by omega) j 32 [] (by omega) (by omega) (fun _ _ h => by cases h)
  rw [txtP_vg hc (by simp) hs h1]
theorem greatL_snoc (v : Bs) (k : Nat) : greatL (k + 1) v = greatL k v ++ [(digs (k + 2), refTo (k + 1) ++ refTo (k + 1))] := by
  unfold greatL; rw [List.range_succ (n := k + 1)]; simp [gV]
theorem greatL_zero (v : Bs) : greatL 0 v = [(digs 1, v)] := rfl
theorem greatL_small (n : Nat) (v : Bs) (hv : v.length ≤ 1) : ∀ p ∈ greatL n v, p.2.length ≤ 1000000 := by
  intro p hp
  unfold greatL at hp
  obtain ⟨i, _, rfl⟩ := List.mem_map.1 hp
  have hd : ∀ k, (digs k).length ≤ 2 := fun k => by unfold digs; split <;> simp
  show (gV v i).length ≤ 1000000
  match i with
  | 0 => show v.length ≤ _; omega
  | i + 1 =>
    have := hd (i + 1)
    show (refTo (i + 1) ++ refTo (i + 1)).length ≤ _
    simp [refTo]
    omega
end Go.Proofs.Ytpgdioopkcfjdaa
