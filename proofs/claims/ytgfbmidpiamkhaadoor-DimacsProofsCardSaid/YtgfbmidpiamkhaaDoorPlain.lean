/- Words on rows of numbers: what they hold, which literals and clauses are true. No function of the program is in sight. -/
import Derived.Test.YtgfbmidpiamkhaaDoorBase
namespace Go.Proofs.YtgfbmidpiamkhaaDoor
open Go.RowKit

theorem any_take_succ {α : Type} (p : α → Bool) (l : List α) (k : Nat) (h : k < l.length) : (l.take (k + 1)).any p = ((l.take k).any p || p l[k]) := by
  rw [List.take_succ_eq_append_getElem h, List.any_append]; simp
theorem all_take_succ {α : Type} (p : α → Bool) (l : List α) (k : Nat) (h : k < l.length) : (l.take (k + 1)).all p = ((l.take k).all p && p l[k]) := by
  rw [List.take_succ_eq_append_getElem h, List.all_append]; simp
theorem any_at {α : Type} {p : α → Bool} {l : List α} {k : Nat} {h : k < l.length} (hp : p l[k] = true) : l.any p = true := List.any_eq_true.2 ⟨_, List.getElem_mem h, hp⟩
theorem all_at {α : Type} {p : α → Bool} {l : List α} {k : Nat} {h : k < l.length} (hp : p l[k] = false) : l.all p = false := List.all_eq_false.2 ⟨_, List.getElem_mem h, by simp [hp]⟩
theorem hid_nil_any {α : Type} (p : α → Bool) (l : List α) : Hid ((l.take 0).any p = false) := by simp [Hid]
theorem hid_any_succ {α : Type} {p : α → Bool} {l : List α} {k : Nat} (h : k < l.length) (hi : Hid ((l.take k).any p = false)) (hp : p l[k] = false) : Hid ((l.take (k + 1)).any p = false) := by
  rw [Hid, any_take_succ _ _ _ h, hi.out, hp]; rfl
theorem hid_any_end {α : Type} {p : α → Bool} {l : List α} (hi : Hid ((l.take l.length).any p = false)) : l.any p = false := by rw [List.take_length] at hi; exact hi
def litTrue (t : List Bool) (n : Int) : Bool := if 0 < n then t.getD (n.toNat - 1) false else if n < 0 then !(t.getD ((-n).toNat - 1) false) else false
def clauseTrue (t : List Bool) (c : List Int) : Bool := c.any (litTrue t)
def holdsI (cls : List (List Int)) (t : List Bool) : Int := match cls.findIdx? (fun c => !clauseTrue t c) with | some i => i | none => -1
def hasB (l : List Int) (x : Int) : Bool := l.contains x
theorem hasB_iff {l : List Int} {x : Int} : hasB l x = true ↔ x ∈ l := by simp [hasB]
theorem contains_false {l : List Int} {x : Int} (h : Hid ((l.take l.length).any (fun y => y == x) = false)) : hasB l x = false := by
  unfold hasB
  rw [List.take_length] at h
  have := h.out
  simp only [List.any_eq_false, beq_iff_eq] at this
  simp only [List.contains_eq_mem, decide_eq_false_iff_not]
  exact fun hm => this x hm rfl
theorem contains_true {l : List Int} {x : Int} {k : Nat} (h : k < l.length) (e : l[k] = x) : hasB l x = true := by
  unfold hasB
  simp only [List.contains_eq_mem, decide_eq_true_eq]; exact e ▸ List.getElem_mem h
/-- The place of a number, or -1. -/
def idxI (l : List Int) (x : Int) : Int := match l.findIdx? (fun y => y == x) with | some i => i | none => -1
theorem idxI_nonneg (l : List Int) (x : Int) : decide (0 ≤ idxI l x) = hasB l x := by
  unfold idxI hasB
  cases h : l.findIdx? (fun y => y == x) with
  | none =>
    have := List.findIdx?_eq_none_iff.1 h
    simp only [beq_eq_false_iff_ne] at this
    have hn : ¬ x ∈ l := fun hm => this x hm rfl
    simp [hn]
  | some i =>
    obtain ⟨hi, hp, _⟩ := List.findIdx?_eq_some_iff_getElem.1 h
    have : x ∈ l := by have := List.getElem_mem hi; simp at hp; rwa [hp] at this
    simp [this]
theorem findIdx_none_of {α : Type} {p : α → Bool} {l : List α} (h : Hid ((l.take l.length).any p = false)) : l.findIdx? p = none := by
  rw [List.take_length] at h
  have := List.any_eq_false.1 h.out
  exact List.findIdx?_eq_none_iff.2 fun x hx => by simpa using this x hx
theorem findIdx_some_of {α : Type} {p : α → Bool} {l : List α} {k : Nat} (h : k < l.length) (hi : Hid ((l.take k).any p = false)) (hp : p l[k] = true) : l.findIdx? p = some k := by
  refine List.findIdx?_eq_some_iff_getElem.2 ⟨h, hp, fun j hj => ?_⟩
  have := List.any_eq_false.1 hi.out (l[j]) (by rw [List.mem_take_iff_getElem]; exact ⟨j, by omega, rfl⟩)
  simpa using this
theorem litTrue_pos {t : List Bool} {k : Nat} (h : k < t.length) {n : Int} (hn : n = (k : Int) + 1) : litTrue t n = t[k] := by
  subst hn
  simp only [litTrue]
  rw [if_pos (by omega), show ((k : Int) + 1).toNat - 1 = k by omega]
  simp [List.getD, h]
theorem litTrue_neg {t : List Bool} {k : Nat} (h : k < t.length) {n : Int} (hn : n = -((k : Int) + 1)) : litTrue t n = !t[k] := by
  subst hn
  simp only [litTrue]
  rw [if_neg (by omega), if_pos (by omega), show (-(-((k : Int) + 1))).toNat - 1 = k by omega]
  simp [List.getD, h]
theorem litTrue_none {t : List Bool} {n : Int} (h1 : ¬ (1 ≤ n ∧ n ≤ t.length)) (h2 : ¬ (-(t.length : Int) ≤ n ∧ n ≤ -1)) : litTrue t n = decide (n < 0) := by
  simp only [litTrue]
  by_cases h : 0 < n
  · rw [if_pos h, List.getD, List.getElem?_eq_none (by omega)]; simp; omega
  · rw [if_neg h]
    by_cases h3 : n < 0
    · rw [if_pos h3, List.getD, List.getElem?_eq_none (by omega)]; simp; omega
    · rw [if_neg h3]; simp; omega
theorem clauseTrue_succ {t : List Bool} {c : List Int} {j : Nat} (h : j < c.length) : clauseTrue t (c.take (j + 1)) = (clauseTrue t (c.take j) || litTrue t c[j]) := any_take_succ _ _ _ h
theorem holdsI_iff {cls : List (List Int)} {t : List Bool} : holdsI cls t = -1 ↔ cls.all (clauseTrue t) = true := by
  unfold holdsI
  cases h : cls.findIdx? (fun c => !clauseTrue t c) with
  | none =>
    have := List.findIdx?_eq_none_iff.1 h
    simp at this
    simpa using this
  | some i =>
    obtain ⟨hi, hp, _⟩ := List.findIdx?_eq_some_iff_getElem.1 h
    simp at hp
    have : cls.all (clauseTrue t) = false := all_at (h := hi) hp
    simp [this]
theorem callFunc_run {P : Program} {f : FuncId} {fn : Func} (hf : P.funcs[f]? = some fn) (hn : (fn.name == "runtime.NumGoroutine") = false) (hb : fn.body.isNone = false) (args : Array Value) (w : World) : (callFunc f args).run P w = .ok (.enter f args) w := by
  cases hc : fn.body with
  | none => simp [hc] at hb
  | some c => simp at hn; simp [callFunc, program, Sem.run, hf, hc, hn]
def idxFn (p : Int → Bool) (l : List Int) : Int := match l.findIdx? p with | some i => i | none => -1
theorem idxFn_nonneg (p : Int → Bool) (l : List Int) : decide (0 ≤ idxFn p l) = l.any p := by
  unfold idxFn
  cases h : l.findIdx? p with
  | none =>
    have := List.findIdx?_eq_none_iff.1 h
    have hn : l.any p = false := by rw [List.any_eq_false]; intro x hx; simp [this x hx]
    simp [hn]
  | some i =>
    obtain ⟨hi, hp, _⟩ := List.findIdx?_eq_some_iff_getElem.1 h
    simp [any_at (h := hi) hp]
theorem hasB_any (w : List Int) (n : Int) : hasB w n = w.any fun y => y == n := by
  rw [Bool.eq_iff_iff, hasB_iff, List.any_eq_true]
  simp
/-- The first one that there is. -/
def firstN {α : Type} (f : Nat → Option α) : Nat → Option α
  | 0 => none
  | n + 1 => match firstN f n with | some x => some x | none => f n
theorem firstN_go {α : Type} {f : Nat → Option α} {k : Nat} (h : firstN f k = none) (hk : f k = none) : firstN f (k + 1) = none := by rw [firstN, h]; exact hk
theorem firstN_mono {α : Type} {f : Nat → Option α} {x : α} {m : Nat} (h : firstN f m = some x) : ∀ n, m ≤ n → firstN f n = some x
  | 0, hn => by obtain rfl : m = 0 := by omega
                exact h
  | n + 1, hn => by
    rcases Nat.lt_or_ge m (n + 1) with hlt | hge
    · rw [firstN, firstN_mono h n (by omega)]
    · obtain rfl : m = n + 1 := by omega
      exact h
theorem firstN_hit {α : Type} {f : Nat → Option α} {x : α} {k n : Nat} (h : firstN f k = none) (hk : f k = some x) (hn : k < n) : firstN f n = some x :=
  firstN_mono (m := k + 1) (by rw [firstN, h]; exact hk) n hn
theorem firstN_none {α : Type} {f : Nat → Option α} : ∀ {n : Nat}, firstN f n = none → ∀ k, k < n → f k = none
  | 0, _, k, hk => absurd hk (by omega)
  | n + 1, h, k, hk => by
    rw [firstN] at h
    cases hf : firstN f n with
    | some x => rw [hf] at h; cases h
    | none =>
      rw [hf] at h
      rcases Nat.lt_or_ge k n with hlt | hge
      · exact firstN_none hf k hlt
      · obtain rfl : k = n := by omega
        exact h
theorem firstN_some {α : Type} {f : Nat → Option α} {x : α} : ∀ {n : Nat}, firstN f n = some x → ∃ k, k < n ∧ f k = some x ∧ firstN f k = none
  | 0, h => by cases h
  | n + 1, h => by
    rw [firstN] at h
    cases hf : firstN f n with
    | some y =>
      rw [hf] at h
      obtain ⟨k, hk, h1, h2⟩ := firstN_some (hf.trans h)
      exact ⟨k, by omega, h1, h2⟩
    | none => rw [hf] at h; exact ⟨n, by omega, h, hf⟩
theorem firstN_all {α : Type} {f : Nat → Option α} : ∀ {n : Nat}, (∀ k, k < n → f k = none) → firstN f n = none
  | 0, _ => rfl
  | n + 1, h => firstN_go (firstN_all fun k hk => h k (by omega)) (h n (by omega))
theorem getD_at {α : Type} {l : List α} {k : Nat} {d : α} (h : k < l.length) : l.getD k d = l[k] := by simp [List.getD, h]
theorem ints_block {W : World} {S : Nat → Prop} {b n : Nat} {l : List Int} {t : TypeId} {f : Nat × Nat} (h : W.heap[b]? = some (.cells (l.map (Value.int .i64)).toArray t f)) (hS : S b) (hl : l.length = n) (hn : n ≤ 1000000) : RInts W S (.slice (some ⟨b, 0, none⟩) n n) l := by
  subst hl
  refine ⟨some ⟨b, 0, none⟩, l.length, rfl, Nat.le_refl _, by unfold maxLen; omega, fun _ => ⟨b, 0, rfl, hS, fun k hk => ⟨.int .i64 l[k], ?_, rfl⟩⟩⟩
  rw [Nat.zero_add, cell_of_row _ _ k _ _ _ h]
  simp [hk]
theorem rows_block {α : Type} {R : Rd α} {W : World} {S : Nat → Prop} {b n : Nat} {vs : List Value} {C : List α} {t : TypeId} {f : Nat × Nat} (h : W.heap[b]? = some (.cells vs.toArray t f)) (hS : S b) (hl : C.length = n) (hn : n ≤ 1000000) (hv : vs.length = C.length)
    (hr : ∀ i (hi : i < C.length) u, vs[i]? = some u → R W S u C[i]) : RSl R W S (.slice (some ⟨b, 0, none⟩) n n) C := by
  subst hl
  refine ⟨some ⟨b, 0, none⟩, C.length, rfl, Nat.le_refl _, by unfold maxLen; omega, fun _ => ⟨b, 0, rfl, hS, fun k hk => ⟨vs[k], ?_, hr k hk _ (List.getElem?_eq_getElem (by omega))⟩⟩⟩
  rw [Nat.zero_add, cell_of_row _ _ k _ _ _ h]
  simp [show k < vs.length by omega]
/-- append of the values of a slice. -/
theorem wpList_appendL {P : Program} {w : World} {ops : Array Oper} {rest : List Oper} {o : Oper} {a : Act} {Q : Exit → Act → World → Prop} (hgd : o.guard = none) (s x : Operand) (t : TypeId)
    (ho : o.op = .call { callee := .builtin .append, args := #[s, x], argTypes := #[t, t] }) {base : Nat} {e : TypeId} {bytes : Nat} (he : Elem1 P t e bytes)
    {v : Value} {n : Nat} {xs : List Value} (hs : a.eval s = v) (hown : w.ownsRow base e 1 v n xs) (ad : Addr) (m c : Nat) (news : List Value) (hx : a.eval x = .slice (some ad) m c) (hl : news.length = m)
    (hc : ∀ j u, news[j]? = some u → w.cell? (ad.add j) = some u) (h1 : ∀ u ∈ news, u.oneCell' = true) (hn : n + m < 1000000000000) (hbase : base ≤ w.heap.size)
    (h : ∀ v' w', w'.ownsRow base e 1 v' (n + m) (xs ++ news) → w.grownBy w' v.ownBlock → (v'.ownBlock = v.ownBlock ∨ v'.ownBlock = some w.heap.size) → wpList P ops Q rest (a.put o.dst v') w') :
    wpList P ops Q (o :: rest) a w := by
  obtain ⟨ht, h64, i, z, hi, hz, hsz, hby, hzs⟩ := he
  refine wpList_append_own_at w hgd s x t ho base e i z 1 bytes ht hi hz hsz hby hzs (by omega) v n xs hs hown ad m c news hx (by omega) hc h1 ?_ ?_ hbase fun v' w' h2 h3 _ h5 => h v' w' h2 h3 h5
  · unfold maxLen; omega
  · have : (n + m) * bytes ≤ 1000000000000 * 64 := Nat.mul_le_mul (by omega) h64
    omega
theorem rat_cells {α : Type} {R : Rd α} {f : α → Value} (hR : ∀ w S u x, R w S u x → u = f x) {w : World} {S : Nat → Prop} {A : Addr} {l : List α} (h : RAt R w S (some A) l) : ∀ j u, (l.map f)[j]? = some u → w.cell? (A.add j) = some u := by
  intro j u hu
  have hj := (List.getElem?_eq_some_iff.1 hu).1
  have hj' : j < l.length := by simpa using hj
  obtain ⟨b, off, e, _, hc⟩ := h (by omega)
  obtain ⟨u', hu', hr⟩ := hc j hj'
  cases e
  rw [add_none, hu', hR _ _ _ _ hr]
  rw [List.getElem?_map, List.getElem?_eq_getElem hj'] at hu
  exact hu
end Go.Proofs.YtgfbmidpiamkhaaDoor
