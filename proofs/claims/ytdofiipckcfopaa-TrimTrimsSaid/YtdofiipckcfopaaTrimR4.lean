/- The reference's first step: pure parts. -/
import Derived.Test.YtdofiipckcfopaaTrimR3
namespace Go.Proofs.Ytdofiipckcfopaa
open Go.RowKit

theorem wpList_append_m {P : Program} {w : World} {ops : Array Oper} {rest : List Oper} {o : Oper} {a : Act} {Q : Exit → Act → World → Prop} (hgd : o.guard = none) (s x : Operand) (t : TypeId)
    (ho : o.op = .call { callee := .builtin .append, args := #[s, x], argTypes := #[t, t] }) {base : Nat} {e : TypeId} {bytes : Nat} (he : Elem1 P t e bytes)
    {v : Value} {n : Nat} {xs : List Value} (hs : a.eval s = v) (hown : w.ownsRow base e 1 v n xs) (ad : Addr) (m c : Nat) (news : List Value) (hx : a.eval x = .slice (some ad) m c)
    (hl : news.length = m) (hc : ∀ j u, news[j]? = some u → w.cell? (ad.add j) = some u) (h1 : ∀ u ∈ news, u.oneCell' = true) (hn : n + m < 1000000000000) (hbase : base ≤ w.heap.size)
    (h : ∀ v' w', w'.ownsRow base e 1 v' (n + m) (xs ++ news) → w.grownBy w' v.ownBlock → (v'.ownBlock = v.ownBlock ∨ v'.ownBlock = some w.heap.size) → wpList P ops Q rest (a.put o.dst v') w') :
    wpList P ops Q (o :: rest) a w := by
  obtain ⟨ht, h64, i, z, hi, hz, hsz, hby, hzs⟩ := he
  refine wpList_append_own_at w hgd s x t ho base e i z 1 bytes ht hi hz hsz hby hzs (by omega) v n xs hs hown ad m c news hx (by omega) hc h1 ?_ ?_ hbase fun v' w' h2 h3 _ h5 => h v' w' h2 h3 h5
  · unfold maxLen; omega
  · have : (n + m) * bytes ≤ 1000000000000 * 64 := Nat.mul_le_mul (by omega) h64
    omega
theorem own_some {w : World} {b n sz : Nat} {t : TypeId} {v : Value} {xs : List Value} (h : w.ownsRow b t sz v n xs) (hn : 0 < n) : ∃ g cap, v = .slice (some ⟨g, 0, none⟩) n cap ∧ b ≤ g ∧ g < w.heap.size := by
  have hl := h.lt
  obtain ⟨_, ⟨_, e⟩ | ⟨g, cap, _, e, _⟩⟩ := h
  · omega
  · subst e; exact ⟨g, cap, rfl, hl g rfl⟩
theorem own_frozen {w : World} {b n sz g cap : Nat} {t : TypeId} {xs : List Value} (h : w.ownsRow b t sz (.slice (some ⟨g, 0, none⟩) n cap) n xs) (i : Nat) : w.frozen? ⟨g, i, none⟩ = false := by
  obtain ⟨_, ⟨e, _⟩ | ⟨g', cap', cur, e, _, hh, _⟩⟩ := h
  · cases e
  · cases e; exact frozen_of_row w g i _ _ hh
/-- A row of clauses, copied, one of them another one. -/
theorem dup_row {w w3 : World} {S : Nat → Prop} {C : Cls} {xs : List Value} {i g9 n cap : Nat} {u : Value} {c' : List Int} (hS : ∀ b, S b → b < w.heap.size) (hxr : ∀ j (hj : j < C.length) u, xs[j]? = some u → RInts w S u C[j])
    (hb : Below w.heap.size w w3) (ho : w3.ownsRow w.heap.size 27 1 (.slice (some ⟨g9, 0, none⟩) n cap) C.length xs) (hu : RInts w3 (fun b => S b ∨ (w.heap.size ≤ b ∧ b < w3.heap.size ∧ b ≠ g9)) u c') :
    RIntss (w3.setCell ⟨g9, i, none⟩ u) (OrNew S w (w3.setCell ⟨g9, i, none⟩ u)) (.slice (some ⟨g9, 0, none⟩) n cap) (C.set i c') := by
  have hg := ho.lt g9 rfl
  have hn : n = C.length := by
    obtain ⟨_, ⟨e, _⟩ | ⟨_, _, _, e, _⟩⟩ := ho
    · cases e
    · cases e; rfl
  subst hn
  refine reads_of_own (own_set ho i u) (by simp) (fun b hb' => .inr (by cases hb'; exact ⟨hg.1, by simpa using hg.2⟩)) fun j hj u' hu' => ?_
  have hst : Ag (fun b => b ≠ g9) w3 (w3.setCell ⟨g9, i, none⟩ u) := fun b hb' => Below.heap_setCell _ _ _ _ hb'
  rw [List.getElem_set]
  rw [List.getElem?_set] at hu'
  split at hu'
  · next e =>
    rw [if_pos e]
    split at hu'
    · cases hu'
      refine RInts.stable _ _ _ _ _ _ hu (hst.sub fun b hb' => ?_) fun b hb' => ?_
      · rcases hb' with x | x
        · have := hS b x; omega
        · exact x.2.2
      · rcases hb' with x | x
        · exact .inl x
        · exact .inr ⟨x.1, by simpa using x.2.1⟩
    · cases hu'
  · next e =>
    rw [if_neg e]
    refine RInts.stable _ _ _ _ _ _ (hxr j (by simpa using hj) u' hu') (fun b hb' => ?_) fun b hb' => .inl hb'
    have := hS b hb'
    exact (hst b (by omega)).trans (hb.block b this)
/-- Clauses in what is new of a work. -/
theorem RkAt.fresh {w w' : World} {g : Nat} {C C' : Cls} {F U : List Int} {E : Bool} {vC vF vU vC' : Value} (h : RkAt w g C F U E vC vF vU) (hb : Below w.heap.size w w') (hr : RIntss w' (OrNew (inR w g vF vU) w w') vC' C') :
    RkAt (w'.setCell ⟨g, 0, none⟩ vC') g C' F U E vC' vF vU :=
  (h.keep hb).setC (RIntss.stable.sub hr fun b hb' => by
    rcases hb' with x | x
    · exact ⟨Nat.lt_of_lt_of_le x.1 hb.size, x.2⟩
    · exact h.new_ hb.size x.1 x.2)
def RStep (vars g : Nat) (s : TrS) (w : World) (e : Ending) (w' : World) : Prop := match stepS vars s with | some t => RPost g w (.bool true) t e w' | none => RPost g w (.bool false) s e w'
theorem RStep.of {vars g : Nat} {s t : TrS} {w w' : World} {e : Ending} (h : stepS vars s = some t) (p : RPost g w (.bool true) t e w') : RStep vars g s w e w' := by unfold RStep; rw [h]; exact p
theorem RStep.no {vars g : Nat} {s : TrS} {w w' : World} {e : Ending} (h : stepS vars s = none) (p : RPost g w (.bool false) s e w') : RStep vars g s w e w' := by unfold RStep; rw [h]; exact p
theorem dupAt_hit {c : List Int} {k : Nat} (hk : k < c.length) (h : hasB (c.take k) c[k] = true) : dupAt c k = some k := by unfold dupAt; rw [getD_at hk, h]; rfl
theorem dupAt_miss {c : List Int} {k : Nat} (hk : k < c.length) (h : hasB (c.take k) c[k] = false) : dupAt c k = none := by unfold dupAt; rw [getD_at hk, h]; rfl
theorem twAt_hit {C : Cls} {i k : Nat} (hi : i < C.length) (h : dupK C[i] = some k) : twAt C i = some (C.set i (C[i].eraseIdx k)) := by unfold twAt; rw [atC_eq hi, h]
theorem twAt_miss {C : Cls} {i : Nat} (hi : i < C.length) (h : dupK C[i] = none) : twAt C i = none := by unfold twAt; rw [atC_eq hi, h]
theorem alAt_hit {C : Cls} {i : Nat} (hi : i < C.length) (h : alwaysB C[i] = true) : alAt C i = some (C.eraseIdx i) := by unfold alAt; rw [atC_eq hi, if_pos h]
theorem alAt_miss {C : Cls} {i : Nat} (hi : i < C.length) (h : alwaysB C[i] = false) : alAt C i = none := by unfold alAt; rw [atC_eq hi, h]; rfl
theorem alwaysB_hit {c : List Int} {k : Nat} (hk : k < c.length) (h : hasB c (-c[k]) = true) : alwaysB c = true := List.any_eq_true.2 ⟨_, List.getElem_mem hk, h⟩
theorem emptyB_hit {C : Cls} {i : Nat} (hi : i < C.length) (h : C[i].length = 0) : emptyB C = true := List.any_eq_true.2 ⟨_, List.getElem_mem hi, by simp [h]⟩
theorem unAt_hit {C : Cls} {i : Nat} (hi : i < C.length) (h : C[i].length = 1) : unAt C i = some (C[i][0]'(by omega)) := by unfold unAt; rw [atC_eq hi, if_pos h, getD_at (by omega)]
theorem unAt_miss {C : Cls} {i : Nat} (hi : i < C.length) (h : C[i].length ≠ 1) : unAt C i = none := by unfold unAt; rw [atC_eq hi, if_neg h]
theorem posB_succ {C : Cls} {q : Nat} (h : q < C.length) (v : Int) : posB (C.take (q + 1)) v = (posB (C.take q) v || hasB C[q] v) := any_take_succ _ _ _ h
theorem puAt_zero (C : Cls) : puAt C 0 = none := by
  unfold puAt
  rw [if_neg (by simp), if_neg (by simp)]
theorem nodup_le : ∀ {a b : List Int}, a.Nodup → (∀ x ∈ a, x ∈ b) → a.length ≤ b.length
  | [], _, _, _ => by simp
  | x :: a, b, h, hs => by
    have hx := hs x (by simp)
    obtain ⟨h1, h2⟩ := List.nodup_cons.1 h
    have := nodup_le (a := a) (b := b.erase x) h2 fun y hy => (List.mem_erase_of_ne (show y ≠ x from fun e => h1 (by rw [← e]; exact hy))).2 (hs y (by simp [hy]))
    rw [List.length_erase_of_mem hx] at this
    have := List.length_pos_of_mem hx
    simp only [List.length_cons]; omega
theorem dupK_nodup {c : List Int} (h : dupK c = none) : c.Nodup := by
  refine List.pairwise_iff_getElem.2 fun i j hi hj hij e => ?_
  have h1 := firstN_none h j hj
  rw [dupAt_hit hj (hasB_iff.2 (by rw [← e, List.mem_take_iff_getElem]; exact ⟨i, by omega, rfl⟩))] at h1
  cases h1
theorem twiceC_nodup {C : Cls} (h : twiceC C = none) {i : Nat} (hi : i < C.length) : C[i].Nodup := by
  have h1 := firstN_none h i hi
  cases hd : dupK C[i] with
  | none => exact dupK_nodup hd
  | some k => rw [twAt_hit hi hd] at h1; cases h1
theorem cvB_ref {C : Cls} (ht : twiceC C = none) {i k : Nat} (hi : i < C.length) (hk : k < C.length) : cvB C i k = ((decide (i ≠ k) && (decide (C[i].length < C[k].length) || decide (i < k))) && withinB C[i] C[k]) := by
  rw [Bool.eq_iff_iff, cvB_iff, atC_eq hi, atC_eq hk]
  simp only [Bool.and_eq_true, Bool.or_eq_true, decide_eq_true_eq]
  constructor
  · rintro ⟨h1, h2, h3, h4⟩
    exact ⟨⟨h1, by omega⟩, h4⟩
  · rintro ⟨⟨h1, h2⟩, h3⟩
    have := nodup_le (b := C[k]) (twiceC_nodup ht hi) fun x hx => hasB_iff.1 (List.all_eq_true.1 h3 x hx)
    exact ⟨h1, this, fun e => by omega, h3⟩
theorem cvA_hit {C : Cls} {i k : Nat} (h : cvB C i k = true) : cvA C i k = some (C.eraseIdx k) := by unfold cvA; rw [if_pos h]
theorem cvA_miss {C : Cls} {i k : Nat} (h : cvB C i k = false) : cvA C i k = none := by unfold cvA; rw [h]; rfl
theorem within_succ {a b : List Int} {q : Nat} (h : q < a.length) : (a.take (q + 1)).all (hasB b) = ((a.take q).all (hasB b) && hasB b a[q]) := all_take_succ _ _ _ h
theorem RkAt.inner {w : World} {g : Nat} {C : Cls} {F U : List Int} {E : Bool} {vF vU : Value} {b off n c : Nat} (h : RkAt w g C F U E (.slice (some ⟨b, off, none⟩) n c) vF vU) {i : Nat} (hi : i < C.length) {u : Value} (hc : w.cell? ⟨b, off + i, none⟩ = some u) : RInts w (inR w g vF vU) u C[i] := by
  obtain ⟨A', c', e, h1, h2, h3⟩ := h.cl
  cases e
  obtain ⟨b', off', e', hb, hcell⟩ := h3 (by omega)
  cases e'
  obtain ⟨u', hu', hr⟩ := hcell i hi
  rw [hc] at hu'
  cases hu'
  exact hr
end Go.Proofs.Ytdofiipckcfopaa
