/- Maps whose keys are plain data (strings, structs of strings, numbers): what a lookup, a store, an entry read and stored again do. No function of the program is in sight. / Deals, and what the functions of the layers cnf (program and reference) compute of them: plain definitions. / What the small functions of the layer cnf compute: light, isItem, May (program and reference). / .. -/
import Derived.Maps.OwnOps
import Derived.Test.YtcebafeaikipmaaZa
namespace Go.Proofs.Ytcebafeaikipmaa
open Go.RowKit

section
variable {κ : Type}
def EntOf (enc : κ → Value) (es : List MapEntry) (l : List (κ × Value)) : Prop := es.map (fun e => (e.key, e.val)) = l.map fun p => (enc p.1, p.2)
theorem EntOf.cons {enc : κ → Value} {e : MapEntry} {es : List MapEntry} {l : List (κ × Value)} (h : EntOf enc (e :: es) l) : ∃ p r, l = p :: r ∧ e.key = enc p.1 ∧ e.val = p.2 ∧ EntOf enc es r := by
  cases l with
  | nil => simp [EntOf] at h
  | cons p r => simp [EntOf] at h; exact ⟨p, r, rfl, h.1.1, h.1.2, h.2⟩
theorem EntOf.nil {enc : κ → Value} {l : List (κ × Value)} (h : EntOf enc [] l) : l = [] := by
  cases l with
  | nil => rfl
  | cons p r => simp [EntOf] at h
theorem EntOf.at_ {enc : κ → Value} {es : List MapEntry} {l : List (κ × Value)} (h : EntOf enc es l) {i : Nat} {p : κ × Value} (hi : l[i]? = some p) : ∃ e, es[i]? = some e ∧ e.key = enc p.1 ∧ e.val = p.2 := by
  have := congrArg (·[i]?) h
  simp only [List.getElem?_map, hi, Option.map_some] at this
  cases he : es[i]? with
  | none => simp [he] at this
  | some e => simp [he] at this; exact ⟨e, rfl, this.1, this.2⟩
theorem EntOf.set_ {enc : κ → Value} {es : List MapEntry} {l : List (κ × Value)} (h : EntOf enc es l) (i : Nat) (g : MapEntry → MapEntry) (k : κ) (u : Value) (hg : ∀ e, es[i]? = some e → (g e).key = enc k ∧ (g e).val = u) :
    EntOf enc (es.modify i g) (l.set i (k, u)) := by
  unfold EntOf at *
  apply List.ext_getElem?
  intro j
  have hj := congrArg (·[j]?) h
  simp only [List.getElem?_map, List.getElem?_modify, List.getElem?_set] at *
  by_cases hij : i = j
  · subst hij
    have hl : es.length = l.length := by simpa using congrArg List.length h
    cases he : es[i]? with
    | none => rw [List.getElem?_eq_none_iff] at he; simp [show ¬ i < l.length by omega]
    | some e =>
      have := (List.getElem?_eq_some_iff.1 he).1
      obtain ⟨h1, h2⟩ := hg e he
      simp [show i < l.length by omega, h1, h2]
  · simp [hij]; simpa using hj
variable [DecidableEq κ]
/-- What is known of a key type: kt the type's number, enc the key as a value. -/
structure KeyLaw (P : Program) (kt : TypeId) (enc : κ → Value) : Prop where
  check : ∀ b k w, (Instr.checkKey b 10000 kt (enc k)).run P w = .ok () w
  eq : ∀ a b w, (Op.equal kt (enc a) (enc b)).run P w = .ok (decide (a = b)) w
  bits : ∀ a, Instr.sameBits 10000 (enc a) (enc a) = true
  kind : ∃ d, P.underlying kt = some d ∧ ∀ a b, Instr.sameNow d (enc a) (enc b) = none ∨ Instr.sameNow d (enc a) (enc b) = some (decide (a = b))

def findA (k : κ) : List (κ × Value) → Nat → Option (Nat × Value)
  | [], _ => none
  | p :: l, i => if k = p.1 then some (i, p.2) else findA k l (i + 1)
theorem run_findAsking {P : Program} {kt : TypeId} {enc : κ → Value} (K : KeyLaw P kt enc) (k : κ) (w : World) : ∀ (es : List MapEntry) (l : List (κ × Value)) (i : Nat), EntOf enc es l →
    (Instr.findAsking kt (enc k) es i).run P w = .ok (findA k l i) w
  | [], l, i, h => by
    obtain rfl := h.nil
    simp [Instr.findAsking, findA]
  | e :: es, l, i, h => by
    obtain ⟨p, r, rfl, h1, h2, h3⟩ := h.cons
    have ih := run_findAsking K k w es r (i + 1) h3
    unfold Instr.findAsking findA
    rw [h1, h2]
    simp only [Sem.run_bind, K.eq, Result.andThen_ok]
    by_cases hk : k = p.1
    · simp [hk]
    · simp [hk, ih]
theorem findNow_find {P : Program} {kt : TypeId} {enc : κ → Value} {d : TypeDesc} (hd : ∀ a b, Instr.sameNow d (enc a) (enc b) = none ∨ Instr.sameNow d (enc a) (enc b) = some (decide (a = b))) (k : κ) : ∀ (es : List MapEntry) (l : List (κ × Value)) (i : Nat), EntOf enc es l →
    Instr.findNow d (enc k) es i = none ∨ Instr.findNow d (enc k) es i = some (findA k l i)
  | [], l, i, h => by
    obtain rfl := h.nil
    exact .inr rfl
  | e :: es, l, i, h => by
    obtain ⟨p, r, rfl, h1, h2, h3⟩ := h.cons
    have ih := findNow_find (P := P) (kt := kt) hd k es r (i + 1) h3
    unfold Instr.findNow findA
    rw [h1, h2]
    rcases hd k p.1 with hn | hs
    · rw [hn]; exact .inl rfl
    · rw [hs]
      by_cases hk : k = p.1
      · simp [hk]
      · simp only [hk, decide_false, if_false]; exact ih
theorem run_findKey {P : Program} {kt : TypeId} {enc : κ → Value} (K : KeyLaw P kt enc) (k : κ) (w : World) {es : List MapEntry} {l : List (κ × Value)} (h : EntOf enc es l) :
    (Instr.findKey kt (enc k) es).run P w = .ok (findA k l 0) w := by
  obtain ⟨d, hd, hk⟩ := K.kind
  unfold Instr.findKey
  simp only [Sem.run_bind, run_underlying hd, Result.andThen_ok]
  rcases findNow_find (P := P) (kt := kt) hk k es l 0 h with hn | hs
  · rw [hn]; exact run_findAsking K k w es l 0 h
  · rw [hs]; rfl

def setObjW (w : World) (r : Nat) (o : Obj) : World := { w with heap := w.heap.setIfInBounds r o }
theorem grown_setObjW (w : World) (r : Nat) (o : Obj) : w.grownBy (setObjW w r o) (some r) :=
  ⟨rfl, rfl, rfl, by simp [setObjW], fun k _ hne => by simp only [setObjW]; rw [Array.getElem?_setIfInBounds_ne (by rintro rfl; exact hne rfl)]⟩

/-- Block r is a map that holds just f. -/
def MapIs (enc : κ → Value) (w : World) (r : Nat) (f : κ → Option Value) : Prop :=
  ∃ es clock l, w.heap[r]? = some (.map es clock) ∧ EntOf enc es.toList l ∧ (es.toList.map (·.born)).Pairwise (· ≠ ·) ∧ (∀ e ∈ es.toList, e.born < clock) ∧ ∀ k, f k = (findA k l 0).map (·.2)
/-- The same, and the entry of key k bears the stamp s. -/
def MapStamp (enc : κ → Value) (w : World) (r : Nat) (f : κ → Option Value) (k : κ) (s : Nat) : Prop :=
  ∃ es clock l i v e, w.heap[r]? = some (.map es clock) ∧ EntOf enc es.toList l ∧ (es.toList.map (·.born)).Pairwise (· ≠ ·) ∧ (∀ e ∈ es.toList, e.born < clock) ∧ (∀ k, f k = (findA k l 0).map (·.2)) ∧
    findA k l 0 = some (i, v) ∧ es.toList[i]? = some e ∧ e.born = s
theorem MapIs.agree {enc : κ → Value} {w w' : World} {r : Nat} {f : κ → Option Value} (h : MapIs enc w r f) (ha : w'.heap[r]? = w.heap[r]?) : MapIs enc w' r f := by
  obtain ⟨es, c, l, h1, h2⟩ := h
  exact ⟨es, c, l, ha.trans h1, h2⟩
theorem MapStamp.agree {enc : κ → Value} {w w' : World} {r : Nat} {f : κ → Option Value} {k : κ} {s : Nat} (h : MapStamp enc w r f k s) (ha : w'.heap[r]? = w.heap[r]?) : MapStamp enc w' r f k s := by
  obtain ⟨es, c, l, i, v, e, h1, h2⟩ := h
  exact ⟨es, c, l, i, v, e, ha.trans h1, h2⟩
theorem MapIs.lt {enc : κ → Value} {w : World} {r : Nat} {f : κ → Option Value} (h : MapIs enc w r f) : r < w.heap.size := by
  obtain ⟨es, c, l, h1, _⟩ := h
  exact (Array.getElem?_eq_some_iff.1 h1).1
theorem MapIs.made (enc : κ → Value) (w : World) : MapIs enc (w.alloc (.map #[] 0)) w.heap.size fun _ => none :=
  ⟨#[], 0, [], heap_alloc_new w _, rfl, by simp, by simp, fun _ => rfl⟩

theorem findA_some {k : κ} : ∀ {l : List (κ × Value)} {i j : Nat} {v : Value}, findA k l i = some (j, v) → ∃ m, j = i + m ∧ l[m]? = some (k, v) ∧ m < l.length
  | [], i, j, v, h => by simp [findA] at h
  | p :: l, i, j, v, h => by
    unfold findA at h
    split at h
    · rename_i hk
      simp at h
      exact ⟨0, by omega, by simp [hk, ← h.2], by simp⟩
    · obtain ⟨m, h1, h2, h3⟩ := findA_some h
      exact ⟨m + 1, by omega, by simpa using h2, by simp; omega⟩
/-- Another value at the place where k is found. -/
theorem findA_set (k k' : κ) (u : Value) : ∀ (l : List (κ × Value)) (i j : Nat) (v : Value), findA k l i = some (j, v) → (findA k' (l.set (j - i) (k, u)) i).map (·.2) = if k' = k then some u else (findA k' l i).map (·.2)
  | [], i, j, v, h => by simp [findA] at h
  | p :: l, i, j, v, h => by
    unfold findA at h
    split at h
    · rename_i hk
      simp at h
      rw [← h.1, Nat.sub_self, List.set_cons_zero]
      unfold findA
      by_cases hk' : k' = k
      · simp [hk']
      · have : k' ≠ p.1 := fun e => hk' (e.trans hk.symm)
        simp [hk', this]
    · rename_i hk
      obtain ⟨m, hm, _, _⟩ := findA_some h
      rw [show j - i = (j - (i + 1)) + 1 by omega, List.set_cons_succ]
      unfold findA
      by_cases hk' : k' = p.1
      · have : k' ≠ k := fun e => hk (e.symm.trans hk')
        rw [if_pos hk', if_pos hk', if_neg this]
      · rw [if_neg hk', if_neg hk', findA_set k k' u l (i + 1) j v h]
theorem findA_push (k k' : κ) (u : Value) : ∀ (l : List (κ × Value)) (i : Nat), findA k l i = none → (findA k' (l ++ [(k, u)]) i).map (·.2) = if k' = k then some u else (findA k' l i).map (·.2)
  | [], i, _ => by
    by_cases hk' : k' = k <;> simp [findA, hk']
  | p :: l, i, h => by
    unfold findA at h
    split at h
    · simp at h
    · rename_i hk
      rw [List.cons_append]
      unfold findA
      by_cases hk' : k' = p.1
      · have : k' ≠ k := fun e => hk (e.symm.trans hk')
        rw [if_pos hk', if_pos hk', if_neg this]
      · rw [if_neg hk', if_neg hk', findA_push k k' u l (i + 1) h]
theorem findA_push_at (k : κ) (u : Value) : ∀ (l : List (κ × Value)) (i : Nat), findA k l i = none → findA k (l ++ [(k, u)]) i = some (i + l.length, u)
  | [], i, _ => by simp [findA]
  | p :: l, i, h => by
    unfold findA at h
    split at h
    · simp at h
    · rename_i hk
      rw [List.cons_append]
      unfold findA
      rw [if_neg hk, findA_push_at k u l (i + 1) h]
      simp; omega
theorem findA_set_at (k : κ) (u : Value) : ∀ (l : List (κ × Value)) (i j : Nat) (v : Value), findA k l i = some (j, v) → findA k (l.set (j - i) (k, u)) i = some (j, u)
  | [], i, j, v, h => by simp [findA] at h
  | p :: l, i, j, v, h => by
    unfold findA at h
    split at h
    · simp at h
      rw [← h.1, Nat.sub_self, List.set_cons_zero]
      simp [findA]
    · rename_i hk
      obtain ⟨m, hm, _, _⟩ := findA_some h
      rw [show j - i = (j - (i + 1)) + 1 by omega, List.set_cons_succ]
      unfold findA
      rw [if_neg hk, findA_set_at k u l (i + 1) j v h]

theorem modify_toList {α : Type} (a : Array α) (i : Nat) (f : α → α) : (a.modify i f).toList = a.toList.modify i f := by
  apply List.ext_getElem?
  intro j
  simp [List.getElem?_modify, Array.getElem?_toList]
theorem born_modify {es : List MapEntry} (i : Nat) (g : MapEntry → MapEntry) (hg : ∀ e, (g e).born = e.born) : (es.modify i g).map (·.born) = es.map (·.born) := by
  apply List.ext_getElem?
  intro j
  simp only [List.getElem?_map, List.getElem?_modify]
  by_cases h : i = j
  · subst h; cases es[i]? <;> simp [hg]
  · simp [h]
theorem born_lt_modify {es : List MapEntry} {i : Nat} {g : MapEntry → MapEntry} {c : Nat} (hg : ∀ e, (g e).born = e.born) (h : ∀ e ∈ es, e.born < c) : ∀ e ∈ es.modify i g, e.born < c := by
  intro e he
  have : e.born ∈ (es.modify i g).map (·.born) := List.mem_map_of_mem he
  rw [born_modify i g hg] at this
  obtain ⟨e', h1, h2⟩ := List.mem_map.1 this
  rw [← h2]; exact h e' h1

theorem heap_setObjW {w : World} {r : Nat} {o o' : Obj} (h : w.heap[r]? = some o') : (setObjW w r o).heap[r]? = some o := by
  have := (Array.getElem?_eq_some_iff.1 h).1
  simp [setObjW, this]
theorem run_setObj_map {P : Program} {w : World} {r : Nat} {es : Array MapEntry} {c : Nat} (h : w.heap[r]? = some (.map es c)) (o : Obj) : (setObj r o).run P w = .ok () (setObjW w r o) := by
  simp [setObj, Sem.run, h, setObjW]
theorem run_getObj_map {P : Program} {w : World} {r : Nat} {es : Array MapEntry} {c : Nat} (h : w.heap[r]? = some (.map es c)) : (getObj r).run P w = .ok (.map es c) w := by
  simp [getObj, Sem.run, h]
theorem run_keyThatStays {P : Program} {kt : TypeId} {enc : κ → Value} (K : KeyLaw P kt enc) (k : κ) (w : World) : (Instr.keyThatStays (enc k) (enc k)).run P w = .ok (enc k) w := by
  unfold Instr.keyThatStays
  rw [K.bits]; rfl

variable {P : Program} {kt vt T : TypeId} {enc : κ → Value}
theorem run_lookup_is (K : KeyLaw P kt enc) (hT : P.underlying T = some (.map kt vt)) {z : Value} (hz : ∀ w, (zeroValue vt).run P w = .ok z w) {w : World} {r : Nat} {f : κ → Option Value} (h : MapIs enc w r f) (k : κ) (c : Bool) :
    (Instr.lookup T (.map (some r)) (enc k) c).run P w = .ok (if c then .tuple #[(f k).getD z, .bool (f k).isSome] else (f k).getD z) w := by
  obtain ⟨es, cl, l, h1, h2, _, _, h5⟩ := h
  unfold Instr.lookup
  simp only [Sem.run_bind, run_underlying hT, Result.andThen_ok, run_getObj_map h1, Sem.run_pure, K.check, run_findKey K k w h2]
  rw [h5]
  cases findA k l 0 with
  | none => cases c <;> simp [hz]
  | some iv => obtain ⟨i, v⟩ := iv; cases c <;> rfl
theorem run_lookup_nil (K : KeyLaw P kt enc) (hT : P.underlying T = some (.map kt vt)) {z : Value} (hz : ∀ w, (zeroValue vt).run P w = .ok z w) (w : World) (k : κ) (c : Bool) :
    (Instr.lookup T (.map none) (enc k) c).run P w = .ok (if c then .tuple #[z, .bool false] else z) w := by
  unfold Instr.lookup
  simp only [Sem.run_bind, run_underlying hT, Result.andThen_ok, Sem.run_pure, K.check, run_findKey K k w (es := (#[] : Array MapEntry).toList) (l := []) rfl]
  cases c <;> simp [findA, hz]
def updF (f : κ → Option Value) (k : κ) (v : Value) : κ → Option Value := fun k' => if k' = k then some v else f k'

theorem run_mapUpdate_is (K : KeyLaw P kt enc) (hT : P.underlying T = some (.map kt vt)) {w : World} {r : Nat} {f : κ → Option Value} (h : MapIs enc w r f) (k : κ) (v : Value) :
    ∃ w', (Instr.mapUpdate T (.map (some r)) (enc k) v).run P w = .ok () w' ∧ MapIs enc w' r (updF f k v) ∧ w.grownBy w' (some r) ∧ w'.heap.size = w.heap.size := by
  obtain ⟨es, cl, l, h1, h2, h3, h4, h5⟩ := h
  unfold Instr.mapUpdate
  simp only [Sem.run_bind, run_underlying hT, Result.andThen_ok, run_getObj_map h1, K.check, run_findKey K k w h2]
  cases hf : findA k l 0 with
  | none =>
    refine ⟨_, run_setObj_map h1 _, ⟨_, _, l ++ [(k, v)], heap_setObjW h1, ?_, ?_, ?_, ?_⟩, grown_setObjW _ _ _, by simp [setObjW]⟩
    · simpa [EntOf] using h2
    · simp only [Array.toList_push, List.map_append, List.map_cons, List.map_nil]
      rw [List.pairwise_append]
      refine ⟨h3, by simp, fun a ha b hb => ?_⟩
      obtain ⟨e, he, rfl⟩ := List.mem_map.1 ha
      simp at hb
      subst hb
      have := h4 e he
      omega
    · intro e he
      simp at he
      rcases he with he | rfl
      · have := h4 e (by simpa using he); omega
      · simp
    · intro k'
      rw [findA_push k k' v l 0 hf, updF]
      split
      · rfl
      · exact h5 k'
  | some iv =>
    obtain ⟨i, v0⟩ := iv
    obtain ⟨m, hm, hl, _⟩ := findA_some hf
    have him : i = m := by omega
    subst him
    obtain ⟨e, he, hek, hev⟩ := h2.at_ hl
    have he' : es[i]? = some e := by simpa using he
    simp only [Sem.run_bind, Result.andThen_ok, he', Option.map_some, Option.getD_some, hek, run_keyThatStays K]
    refine ⟨_, run_setObj_map h1 _, ⟨_, _, l.set i (k, v), heap_setObjW h1, ?_, ?_, ?_, ?_⟩, grown_setObjW _ _ _, by simp [setObjW]⟩
    · rw [modify_toList]; exact h2.set_ i _ k v fun _ _ => ⟨rfl, rfl⟩
    · rw [modify_toList, born_modify]; exact h3; exact fun _ => rfl
    · rw [modify_toList]; exact born_lt_modify (fun _ => rfl) h4
    · intro k'
      have := findA_set k k' v l 0 i v0 hf
      rw [Nat.sub_zero] at this
      rw [this, updF]
      split
      · rfl
      · exact h5 k'

theorem run_mapEntry_is (K : KeyLaw P kt enc) (hT : P.underlying T = some (.map kt vt)) {z : Value} (hz : ∀ w, (zeroValue vt).run P w = .ok z w) {w : World} {r : Nat} {f : κ → Option Value} (h : MapIs enc w r f) (k : κ) :
    ∃ w' s, (Instr.mapEntry T (.map (some r)) (enc k)).run P w = .ok (.tuple #[(f k).getD z, goInt (s : Nat)]) w' ∧ MapStamp enc w' r (updF f k ((f k).getD z)) k s ∧ w.grownBy w' (some r) ∧ w'.heap.size = w.heap.size := by
  obtain ⟨es, cl, l, h1, h2, h3, h4, h5⟩ := h
  unfold Instr.mapEntry
  simp only [Sem.run_bind, run_underlying hT, Result.andThen_ok, run_getObj_map h1, K.check, run_findKey K k w h2]
  cases hf : findA k l 0 with
  | none =>
    have hfk : f k = none := by rw [h5, hf]; rfl
    rw [hfk]
    simp only [Sem.run_bind, Option.getD_none, hz, Result.andThen_ok, run_setObj_map h1]
    refine ⟨_, cl, rfl, ⟨_, _, l ++ [(k, z)], l.length, z, { key := enc k, val := z, born := cl }, heap_setObjW h1, ?_, ?_, ?_, ?_, ?_, ?_, rfl⟩, grown_setObjW _ _ _, by simp [setObjW]⟩
    · simpa [EntOf] using h2
    · simp only [Array.toList_push, List.map_append, List.map_cons, List.map_nil]
      rw [List.pairwise_append]
      refine ⟨h3, by simp, fun a ha b hb => ?_⟩
      obtain ⟨e, he, rfl⟩ := List.mem_map.1 ha
      simp at hb
      subst hb
      have := h4 e he
      omega
    · intro e he
      simp at he
      rcases he with he | rfl
      · have := h4 e (by simpa using he); omega
      · simp
    · intro k'
      rw [findA_push k k' z l 0 hf, updF]
      split
      · rfl
      · exact h5 k'
    · rw [findA_push_at k z l 0 hf, Nat.zero_add]
    · have hl : es.toList.length = l.length := by simpa using congrArg List.length h2
      simp only [Array.toList_push]
      rw [List.getElem?_append_right (by omega)]
      simp [hl]
  | some iv =>
    obtain ⟨i, v0⟩ := iv
    obtain ⟨m, hm, hl, _⟩ := findA_some hf
    have him : i = m := by omega
    subst him
    obtain ⟨e, he, hek, hev⟩ := h2.at_ hl
    have he' : es[i]? = some e := by simpa using he
    have hfk : f k = some v0 := by rw [h5, hf]; rfl
    rw [hfk]
    simp only [Sem.run_bind, Result.andThen_ok, he', Option.map_some, Option.getD_some, hek, run_keyThatStays K, run_setObj_map h1]
    refine ⟨_, e.born, rfl, ⟨_, _, l.set i (k, v0), i, v0, { e with key := enc k }, heap_setObjW h1, ?_, ?_, ?_, ?_, ?_, ?_, rfl⟩, grown_setObjW _ _ _, by simp [setObjW]⟩
    · rw [modify_toList]; exact h2.set_ i _ k v0 fun e1 he1 => by rw [he] at he1; injection he1 with he1; subst he1; exact ⟨rfl, hev⟩
    · rw [modify_toList, born_modify]; exact h3; exact fun _ => rfl
    · rw [modify_toList]; exact born_lt_modify (fun _ => rfl) h4
    · intro k'
      have := findA_set k k' v0 l 0 i v0 hf
      rw [Nat.sub_zero] at this
      rw [this, updF]
      split
      · rfl
      · exact h5 k'
    · have := findA_set_at k v0 l 0 i v0 hf
      rwa [Nat.sub_zero] at this
    · rw [modify_toList, List.getElem?_modify, he]; simp

theorem findIdx_born {es : List MapEntry} (h : (es.map (·.born)).Pairwise (· ≠ ·)) {i : Nat} {e : MapEntry} (he : es[i]? = some e) : es.findIdx? (fun x => (x.born : Int) == (e.born : Int)) = some i := by
  obtain ⟨hi, hee⟩ := List.getElem?_eq_some_iff.1 he
  refine List.findIdx?_eq_some_iff_getElem.2 ⟨hi, by simp [hee], fun j hj => ?_⟩
  have := (List.pairwise_iff_getElem.1 h) j i (by simp; omega) (by simpa using hi) hj
  simp [hee] at this
  simp; omega
theorem run_entryStore_is {w : World} {r : Nat} {f : κ → Option Value} {k : κ} {s : Nat} (h : MapStamp enc w r f k s) (v : Value) :
    ∃ w', (Instr.entryStore T (.map (some r)) (goInt (s : Nat)) v).run P w = .ok () w' ∧ MapIs enc w' r (updF f k v) ∧ w.grownBy w' (some r) ∧ w'.heap.size = w.heap.size := by
  obtain ⟨es, cl, l, i, v0, e, h1, h2, h3, h4, h5, h6, h7, rfl⟩ := h
  have hidx : es.findIdx? (fun x => (x.born : Int) == (e.born : Int)) = some i := by
    have := findIdx_born h3 h7
    rw [← List.findIdx?_toArray] at this
    simpa using this
  unfold Instr.entryStore
  simp only [Sem.run_bind, Result.andThen_ok, run_getObj_map h1, Sem.run_pure, goInt, asInt, asIntOf, hidx]
  obtain ⟨m, hm, hl, _⟩ := findA_some h6
  have him : i = m := by omega
  subst him
  refine ⟨_, run_setObj_map h1 _, ⟨_, _, l.set i (k, v), heap_setObjW h1, ?_, ?_, ?_, ?_⟩, grown_setObjW _ _ _, by simp [setObjW]⟩
  · obtain ⟨e', he', hek, _⟩ := h2.at_ hl
    rw [modify_toList]; exact h2.set_ i _ k v fun e1 he1 => by rw [he'] at he1; injection he1 with he1; subst he1; exact ⟨hek, rfl⟩
  · rw [modify_toList, born_modify]; exact h3; exact fun _ => rfl
  · rw [modify_toList]; exact born_lt_modify (fun _ => rfl) h4
  · intro k'
    have := findA_set k k' v l 0 i v0 h6
    rw [Nat.sub_zero] at this
    rw [this, updF]
    split
    · rfl
    · exact h5 k'
end
end Go.Proofs.Ytcebafeaikipmaa

namespace Go.Proofs.Ytcebafeaikipmaa
open Go.RowKit

abbrev KeyD := ByteArray × ByteArray × ByteArray × ByteArray
abbrev ItemD := KeyD × ByteArray
def keyCells (k : KeyD) : List Value := [.string k.1, .string k.2.1, .string k.2.2.1, .string k.2.2.2]
def itemCells (i : ItemD) : List Value := keyCells i.1 ++ [.string i.2]
abbrev VItem : RdV ItemD := VCells itemCells
abbrev RItems := RArr 5 VItem
theorem RItems.stable : Stable RItems := RArr.stable (VCells.stable _)
structure DealD where
  items : List ItemD
  wants : List (List (List Int))
  root : Int
def RDeal : Rd DealD := fun w S v d => ∃ s0 s1, v = .agg #[s0, s1, .int .i64 d.root] ∧ RItems w S s0 d.items ∧ RIntsss w S s1 d.wants ∧ -9223372036854775808 ≤ d.root ∧ d.root ≤ 9223372036854775807

def isItemB (n0 : Nat) (n : Int) : Bool := decide (0 ≤ n) && decide (n < n0)
def badW (n0 : Nat) (w : List Int) : Bool := w.any fun n => !isItemB n0 n
def badR (n0 : Nat) (ws : List (List Int)) : Bool := ws.any (badW n0)
def badRR (n0 : Nat) (wss : List (List (List Int))) : Bool := wss.any (badR n0)
/-- P17.1, of the program and of the reference. -/
def mayN (n0 : Nat) (r : Int) (wss : List (List (List Int))) : Nat :=
  if 1024 < n0 then 2 else if isItemB n0 r = false ∨ wss.length ≠ n0 then 1 else if badRR n0 wss then 1 else 0
def errOf (k : Nat) : Int := if k = 2 then 2 else if k = 1 then 1 else 0
def lightR (ws : List (List Int)) : Bool := decide (ws.length ≤ 10) && ws.all fun w => decide (w.length ≤ 40)
def lightB (n0 : Nat) (wss : List (List (List Int))) : Bool := decide (n0 ≤ 40) && decide (wss.length ≤ 40) && wss.all lightR

theorem any_take_succ {α : Type} (p : α → Bool) (l : List α) (k : Nat) (h : k < l.length) : (l.take (k + 1)).any p = ((l.take k).any p || p l[k]) := by
  rw [List.take_succ_eq_append_getElem h, List.any_append]; simp
theorem all_take_succ {α : Type} (p : α → Bool) (l : List α) (k : Nat) (h : k < l.length) : (l.take (k + 1)).all p = ((l.take k).all p && p l[k]) := by
  rw [List.take_succ_eq_append_getElem h, List.all_append]; simp
theorem any_at {α : Type} {p : α → Bool} {l : List α} {k : Nat} {h : k < l.length} (hp : p l[k] = true) : l.any p = true := List.any_eq_true.2 ⟨_, List.getElem_mem h, hp⟩
theorem all_at {α : Type} {p : α → Bool} {l : List α} {k : Nat} {h : k < l.length} (hp : p l[k] = false) : l.all p = false := List.all_eq_false.2 ⟨_, List.getElem_mem h, by simp [hp]⟩
end Go.Proofs.Ytcebafeaikipmaa

namespace Go.Proofs.Ytcebafeaikipmaa
open Go.RowKit

set_option maxHeartbeats 400000 in
theorem isItem_any (A : Option Addr) (n0 c0 : Nat) (s1 : Value) (r : Int) (n : Int) (w : World) :
    Calls Try.prog 46 #[.agg #[.slice A n0 c0, s1, .int .i64 r], .int .i64 n] w fun e w' => e = .returned (.bool (isItemB n0 n)) ∧ Below w.heap.size w w' := by
  have hb : Below w.heap.size w (w.alloc (.cells #[.slice A n0 c0, s1, .int .i64 r] 25)) := (Below.refl _ _).alloc (Nat.le_refl _) _
  have Hb := Lib.hid hb; clear hb
  by_cases h0 : 0 ≤ n
  · go_enter Try.func46, Try.ntmps46
    go_wp2
    go_ret
    exact ⟨ret_bool (by simp [isItemB]; omega), Hb.out⟩
  · go_enter Try.func46, Try.ntmps46
    go_wp2
    go_ret
    exact ⟨ret_bool (by simp [isItemB]; omega), Hb.out⟩

end Go.Proofs.Ytcebafeaikipmaa

namespace Go.Proofs.Ytcebafeaikipmaa
open Go.RowKit

theorem hid_nil_any {α : Type} (p : α → Bool) (l : List α) : Hid ((l.take 0).any p = false) := by simp [Hid]
theorem hid_any_succ {α : Type} {p : α → Bool} {l : List α} {k : Nat} (h : k < l.length) (hi : Hid ((l.take k).any p = false)) (hp : p l[k] = false) : Hid ((l.take (k + 1)).any p = false) := by
  rw [Hid, any_take_succ _ _ _ h, hi.out, hp]; rfl
theorem hid_any_end {α : Type} {p : α → Bool} {l : List α} (hi : Hid ((l.take l.length).any p = false)) : l.any p = false := by rw [List.take_length] at hi; exact hi

set_option maxHeartbeats 1000000 in
theorem May_any (A : Option Addr) (n0 c0 : Nat) (s1 : Value) (r : Int) (wss : List (List (List Int))) (w : World) (hw : RIntsss w (Lt w.heap.size) s1 wss) :
    Calls Try.prog 39 #[.agg #[.slice A n0 c0, s1, .int .i64 r]] w fun e w' => e = .returned (.int .i64 (errOf (mayN n0 r wss))) ∧ Below w.heap.size w w' := by
  obtain ⟨A1, c1, rfl, hm, hat⟩ := hw.open_
  have Hat := Lib.hid hat; clear hat
  by_cases h1 : 1024 < n0
  · have Hd := Lib.hid (show (2 : Int) = errOf (mayN n0 r wss) by simp [mayN, h1, errOf])
    go_enter Try.func39, Try.ntmps39
    go_wp2
    go_ret
    exact ⟨ret_int Hd.out, (Below.refl _ _).alloc (Nat.le_refl _) _⟩
  by_cases h2 : isItemB n0 r = false
  · have Hd := Lib.hid (show (1 : Int) = errOf (mayN n0 r wss) by simp [mayN, h1, h2, errOf])
    have H2 := Lib.hid h2; clear h2
    go_enter Try.func39, Try.ntmps39
    go_wp2_with (first | (go_at_call 46; refine (isItem_any _ _ _ _ _ _ _).mono ?_; rintro e w1 ⟨rfl, hb⟩; rw [H2.out]; obtain ⟨hc, hf⟩ := bcell hb))
    go_ret
    exact ⟨ret_int Hd.out, ((Below.refl _ _).alloc (Nat.le_refl _) _).trans (hb.mono (by simp))⟩
  by_cases h3 : ¬ wss.length = n0
  · have Hd := Lib.hid (show (1 : Int) = errOf (mayN n0 r wss) by simp [mayN, h1, h3, errOf])
    have H2 := Lib.hid (show isItemB n0 r = true by simpa using h2); clear h2
    have h3' : ((wss.length : Int) != n0) = true := by simp; omega
    go_enter Try.func39, Try.ntmps39
    go_wp2_with (first | (go_at_call 46; refine (isItem_any _ _ _ _ _ _ _).mono ?_; rintro e w1 ⟨rfl, hb⟩; rw [H2.out]; obtain ⟨hc, hf⟩ := bcell hb))
    all_goals
      go_ret
      exact ⟨ret_int Hd.out, ((Below.refl _ _).alloc (Nat.le_refl _) _).trans (hb.mono (by simp))⟩
  have h3 : wss.length = n0 := by simpa using h3
  have hmay : mayN n0 r wss = if badRR n0 wss then 1 else 0 := by simp [mayN, h1, h2, h3]
  have Hmay := Lib.hid hmay; clear hmay
  have H2 := Lib.hid (show isItemB n0 r = true by simpa using h2); clear h2
  subst h3
  go_enter Try.func39, Try.ntmps39
  go_wp2_with (first | (go_at_call 46; refine (isItem_any _ _ _ _ _ _ _).mono ?_; rintro e w1 ⟨rfl, hb⟩; rw [H2.out]; obtain ⟨hc, hf⟩ := bcell hb))
  have hbw : Below w.heap.size w w1 := ((Below.refl _ _).alloc (Nat.le_refl _) _).trans (hb.mono (by simp))
  have hz : w.heap.size < w1.heap.size := by have := hb.size; simp at this; omega
  go_loopw [32] (fun sv wr => ∃ k : Nat, k ≤ (wss).length ∧ sv = .int .i64 k ∧ Below (w.heap.size+1) w1 wr ∧ Hid ((wss.take k).any (badR wss.length) = false)) (fun sv _ => (wss).length - (intOf sv).toNat)
  case atStart => exact ⟨0, Nat.zero_le _, rfl, Below.refl _ _, hid_nil_any _ _⟩
  case round =>
    obtain ⟨wk, rfl⟩ : ∃ w0 : World, w0 = wr := ⟨_, rfl⟩
    obtain ⟨k, hkle, rfl, hkbel, hkinv⟩ := hrel
    by_cases hklt : k < (wss).length
    · obtain ⟨bk, offk, uk, rfl, hbk, hcellk, huk⟩ := Hat.out.at_ RIntss.stable (ag_of_below (hbw.trans (hkbel.mono (by omega)))) hklt
      obtain ⟨A2, c2, rfl, hm2, hat2⟩ := huk.open_
      have Hat2 := Lib.hid hat2; clear hat2
      go_wp2
      go_loopw [38] (fun sv wr => ∃ j : Nat, j ≤ (wss[k]).length ∧ sv = .int .i64 j ∧ Below (w.heap.size+1) wk wr ∧ Hid ((wss[k].take j).any (badW wss.length) = false)) (fun sv _ => (wss[k]).length - (intOf sv).toNat)
      case atStart => exact ⟨0, Nat.zero_le _, rfl, Below.refl _ _, hid_nil_any _ _⟩
      case round =>
        obtain ⟨wj, rfl⟩ : ∃ w0 : World, w0 = wr := ⟨_, rfl⟩
        obtain ⟨j, hjle, rfl, hjbel, hjinv⟩ := hrel
        by_cases hjlt : j < (wss[k]).length
        · obtain ⟨bj, offj, uj, rfl, hbj, hcellj, huj⟩ := Hat2.out.at_ RInts.stable (ag_of_below (hjbel.mono (by omega))) hjlt
          obtain ⟨A3, c3, rfl, hm3, hat3⟩ := huj.open_
          have Hat3 := Lib.hid hat3; clear hat3
          go_wp2
          go_loopw [44] (fun sv wr => ∃ q : Nat, q ≤ (wss[k][j]).length ∧ sv = .int .i64 q ∧ Below (w.heap.size+1) wj wr ∧ Hid ((wss[k][j].take q).any (fun n => !isItemB wss.length n) = false)) (fun sv _ => (wss[k][j]).length - (intOf sv).toNat)
          case atStart => exact ⟨0, Nat.zero_le _, rfl, Below.refl _ _, hid_nil_any _ _⟩
          case round =>
            obtain ⟨wq, rfl⟩ : ∃ w0 : World, w0 = wr := ⟨_, rfl⟩
            obtain ⟨q, hqle, rfl, hqbel, hqinv⟩ := hrel
            by_cases hqlt : q < (wss[k][j]).length
            · obtain ⟨bq, offq, uq, rfl, hbq, hcellq, huq⟩ := Hat3.out.at_ RInt.stable (ag_of_below (hqbel.mono (by omega))) hqlt
              obtain rfl := huq
              have hbr4 := hkbel.trans (hjbel.trans hqbel)
              obtain ⟨hc4, hf4⟩ := bcell hbr4
              cases hi : isItemB wss.length (wss[k][j][q]) with
              | true =>
                have Hi := Lib.hid hi; clear hi
                go_wp2_with (first | (go_at_call 46; refine (isItem_any _ _ _ _ _ _ _).mono ?_; rintro e w2 ⟨rfl, hb2⟩; rw [Hi.out]))
                go_roundw
                case rel => exact ⟨q + 1, by omega, by go_num, (hqbel.trans (hb2.mono (by have := hbr4.size; omega))), (hid_any_succ hqlt hqinv (by rw [Hi.out]; rfl))⟩
                case measure => simp [intOf]; omega
              | false =>
                have Hi := Lib.hid hi; clear hi
                go_wp2_with (first | (go_at_call 46; refine (isItem_any _ _ _ _ _ _ _).mono ?_; rintro e w2 ⟨rfl, hb2⟩; rw [Hi.out]))
                go_ret
                have hbad : badRR wss.length wss = true := any_at (h := hklt) (any_at (h := hjlt) (any_at (h := hqlt) (by rw [Hi.out]; rfl)))
                exact ⟨ret_int (by rw [Hmay.out, hbad]; rfl), hbw.trans ((hbr4.mono (by omega)).trans (hb2.mono (by have := hbr4.size; omega)))⟩
            · obtain rfl : q = (wss[k][j]).length := by omega
              go_wp2
              go_roundw
              case rel => exact ⟨j + 1, by omega, by go_num, (hjbel.trans hqbel), (hid_any_succ hjlt hjinv (hid_any_end hqinv))⟩
              case measure => simp [intOf]; omega
        · obtain rfl : j = (wss[k]).length := by omega
          go_wp2
          go_roundw
          case rel => exact ⟨k + 1, by omega, by go_num, (hkbel.trans hjbel), (hid_any_succ hklt hkinv (hid_any_end hjinv))⟩
          case measure => simp [intOf]; omega
    · obtain rfl : k = (wss).length := by omega
      go_wp2
      go_ret
      exact ⟨ret_int (by rw [Hmay.out, badRR, hid_any_end hkinv]; rfl), hbw.trans (hkbel.mono (by omega))⟩

set_option maxHeartbeats 1000000 in
theorem refMay_any (A : Option Addr) (n0 c0 : Nat) (s1 : Value) (r : Int) (wss : List (List (List Int))) (w : World) (hw : RIntsss w (Lt w.heap.size) s1 wss) :
    Calls Try.prog 16 #[.agg #[.slice A n0 c0, s1, .int .i64 r]] w fun e w' => e = .returned (.int .i64 (mayN n0 r wss : Nat)) ∧ Below w.heap.size w w' := by
  obtain ⟨A1, c1, rfl, hm, hat⟩ := hw.open_
  have Hat := Lib.hid hat; clear hat
  have hb : Below w.heap.size w (w.alloc (.cells #[.slice A n0 c0, .slice A1 wss.length c1, .int .i64 r] 25)) := (Below.refl _ _).alloc (Nat.le_refl _) _
  have Hb := Lib.hid hb; clear hb
  by_cases h1 : 1024 < n0
  · have Hd := Lib.hid (show (2 : Int) = (mayN n0 r wss : Nat) by simp [mayN, h1])
    go_enter Try.func16, Try.ntmps16
    go_wp2
    go_ret
    exact ⟨ret_int Hd.out, Hb.out⟩
  by_cases h2 : r < 0
  · have Hd := Lib.hid (show (1 : Int) = (mayN n0 r wss : Nat) by simp [mayN, h1, show isItemB n0 r = false by simp [isItemB]; omega])
    go_enter Try.func16, Try.ntmps16
    go_wp2
    go_ret
    exact ⟨ret_int Hd.out, Hb.out⟩
  by_cases h2' : (n0 : Int) ≤ r
  · have Hd := Lib.hid (show (1 : Int) = (mayN n0 r wss : Nat) by simp [mayN, h1, show isItemB n0 r = false by simp [isItemB]; omega])
    go_enter Try.func16, Try.ntmps16
    go_wp2
    go_ret
    exact ⟨ret_int Hd.out, Hb.out⟩
  by_cases h3 : ¬ wss.length = n0
  · have Hd := Lib.hid (show (1 : Int) = (mayN n0 r wss : Nat) by simp [mayN, h1, h3])
    have h3' : ((wss.length : Int) != n0) = true := by simp; omega
    go_enter Try.func16, Try.ntmps16
    go_wp2
    all_goals
      go_ret
      exact ⟨ret_int Hd.out, Hb.out⟩
  have h3 : wss.length = n0 := by simpa using h3
  have hmay : mayN n0 r wss = if badRR n0 wss then 1 else 0 := by
    have h2 : isItemB n0 r = true := by simp [isItemB]; omega
    simp [mayN, h1, h2, h3]
  have Hmay := Lib.hid hmay; clear hmay
  subst h3
  go_enter Try.func16, Try.ntmps16
  go_wp2
  go_loop [34] (fun sv => ∃ k : Nat, k ≤ (wss).length ∧ sv = .int .i64 k ∧ Hid ((wss.take k).any (badR wss.length) = false)) (fun sv => (wss).length - (intOf sv).toNat)
  case atStart => exact ⟨0, Nat.zero_le _, rfl, hid_nil_any _ _⟩
  case round =>
    obtain ⟨k, hkle, rfl, hkinv⟩ := hrel
    by_cases hklt : k < (wss).length
    · obtain ⟨bk, offk, uk, rfl, hbk, hcellk, huk⟩ := Hat.out.lt_ hklt
      obtain ⟨A2, c2, rfl, hm2, hat2⟩ := huk.open_
      have Hat2 := Lib.hid hat2; clear hat2
      go_wp2
      go_loop [40] (fun sv => ∃ j : Nat, j ≤ (wss[k]).length ∧ sv = .int .i64 j ∧ Hid ((wss[k].take j).any (badW wss.length) = false)) (fun sv => (wss[k]).length - (intOf sv).toNat)
      case atStart => exact ⟨0, Nat.zero_le _, rfl, hid_nil_any _ _⟩
      case round =>
        obtain ⟨j, hjle, rfl, hjinv⟩ := hrel
        by_cases hjlt : j < (wss[k]).length
        · obtain ⟨bj, offj, uj, rfl, hbj, hcellj, huj⟩ := Hat2.out.lt_ hjlt
          obtain ⟨A3, c3, rfl, hm3, hat3⟩ := huj.open_
          have Hat3 := Lib.hid hat3; clear hat3
          go_wp2
          go_loop [46] (fun sv => ∃ q : Nat, q ≤ (wss[k][j]).length ∧ sv = .int .i64 q ∧ Hid ((wss[k][j].take q).any (fun n => !isItemB wss.length n) = false)) (fun sv => (wss[k][j]).length - (intOf sv).toNat)
          case atStart => exact ⟨0, Nat.zero_le _, rfl, hid_nil_any _ _⟩
          case round =>
            obtain ⟨q, hqle, rfl, hqinv⟩ := hrel
            by_cases hqlt : q < (wss[k][j]).length
            · obtain ⟨bq, offq, uq, rfl, hbq, hcellq, huq⟩ := Hat3.out.lt_ hqlt
              obtain rfl := huq
              by_cases hx0 : wss[k][j][q] < 0
              · go_wp2
                go_ret
                have hbad : badRR wss.length wss = true := any_at (h := hklt) (any_at (h := hjlt) (any_at (h := hqlt) (by simp [isItemB]; omega)))
                exact ⟨ret_int (by rw [Hmay.out, hbad]; rfl), Hb.out⟩
              by_cases hx1 : (wss.length : Int) ≤ wss[k][j][q]
              · go_wp2
                go_ret
                have hbad : badRR wss.length wss = true := any_at (h := hklt) (any_at (h := hjlt) (any_at (h := hqlt) (by simp [isItemB]; omega)))
                exact ⟨ret_int (by rw [Hmay.out, hbad]; rfl), Hb.out⟩
              · go_wp2
                go_round
                case rel => exact ⟨q + 1, by omega, by go_num, (hid_any_succ hqlt hqinv (by simp [isItemB]; omega))⟩
                case measure => simp [intOf]; omega
            · obtain rfl : q = (wss[k][j]).length := by omega
              go_wp2
              go_round
              case rel => exact ⟨j + 1, by omega, by go_num, (hid_any_succ hjlt hjinv (hid_any_end hqinv))⟩
              case measure => simp [intOf]; omega
        · obtain rfl : j = (wss[k]).length := by omega
          go_wp2
          go_round
          case rel => exact ⟨k + 1, by omega, by go_num, (hid_any_succ hklt hkinv (hid_any_end hjinv))⟩
          case measure => simp [intOf]; omega
    · obtain rfl : k = (wss).length := by omega
      go_wp2
      go_ret
      exact ⟨ret_int (by rw [Hmay.out, badRR, hid_any_end hkinv]; rfl), Hb.out⟩
end Go.Proofs.Ytcebafeaikipmaa

namespace Go.Proofs.Ytcebafeaikipmaa
open Go.RowKit

def litTrue (t : List Bool) (n : Int) : Bool := if 0 < n then t.getD (n.toNat - 1) false else if n < 0 then !(t.getD ((-n).toNat - 1) false) else false
def clauseTrue (t : List Bool) (c : List Int) : Bool := c.any (litTrue t)
def holdsI (cls : List (List Int)) (t : List Bool) : Int := match cls.findIdx? (fun c => !clauseTrue t c) with | some i => i | none => -1

def hasB (l : List Int) (x : Int) : Bool := l.contains x
theorem hasB_iff {l : List Int} {x : Int} : hasB l x = true ↔ x ∈ l := by simp [hasB]
theorem contains_false {l : List Int} {x : Int} (h : Hid ((l.take l.length).any (fun y => y == x) = false)) : hasB l x = false := by
  unfold hasB
  rw [List.take_length] at h
  have := h.out
  simp only [List.any_eq_false, beq_iff_eq] at this
  simp only [List.contains_eq_mem, decide_eq_false_iff_not]
  exact fun hm => this x hm rfl
theorem contains_true {l : List Int} {x : Int} {k : Nat} (h : k < l.length) (e : l[k] = x) : hasB l x = true := by
  unfold hasB
  simp only [List.contains_eq_mem, decide_eq_true_eq]; exact e ▸ List.getElem_mem h

set_option maxHeartbeats 400000 in
theorem has_any (s : Value) (x : Int) (l : List Int) (w : World) {B : Nat} (hs : RInts w (Lt B) s l) :
    Calls Try.prog 45 #[s, .int .i64 x] w fun e w' => e = .returned (.bool (hasB l x)) ∧ w = w' := by
  obtain ⟨A, c, rfl, hm, hat⟩ := hs.open_
  have Hat := Lib.hid hat; clear hat
  go_enter Try.func45, Try.ntmps45
  go_wp2
  go_loop [9] (fun sv => ∃ k : Nat, k ≤ (l).length ∧ sv = .int .i64 k ∧ Hid ((l.take k).any (fun y => y == x) = false)) (fun sv => (l).length - (intOf sv).toNat)
  case atStart => exact ⟨0, Nat.zero_le _, rfl, hid_nil_any _ _⟩
  case round =>
    obtain ⟨k, hkle, rfl, hkinv⟩ := hrel
    by_cases hklt : k < (l).length
    · obtain ⟨bk, offk, uk, rfl, hbk, hcellk, huk⟩ := Hat.out.lt_ hklt
      obtain rfl := huk
      by_cases hx : l[k] = x
      · have Hx := Lib.hid hx
        have hx1 : (l[k] == x) = true := by simp [hx]
        clear hx
        go_wp2
        go_ret
        exact ⟨ret_bool (contains_true hklt Hx.out).symm, rfl⟩
      · have hx1 : (l[k] == x) = false := by simp [hx]
        clear hx
        go_wp2
        go_round
        case rel => exact ⟨k + 1, by omega, by go_num, hid_any_succ hklt hkinv hx1⟩
        case measure => simp [intOf]; omega
    · obtain rfl : k = (l).length := by omega
      go_wp2
      go_ret
      exact ⟨ret_bool (contains_false hkinv).symm, rfl⟩

/-- The place of a number, or -1. -/
def idxI (l : List Int) (x : Int) : Int := match l.findIdx? (fun y => y == x) with | some i => i | none => -1
theorem idxI_nonneg (l : List Int) (x : Int) : decide (0 ≤ idxI l x) = hasB l x := by
  unfold idxI hasB
  cases h : l.findIdx? (fun y => y == x) with
  | none =>
    have := List.findIdx?_eq_none_iff.1 h
    simp only [beq_eq_false_iff_ne] at this
    have hn : ¬ x ∈ l := fun hm => this x hm rfl
    simp [hn]
  | some i =>
    obtain ⟨hi, hp, _⟩ := List.findIdx?_eq_some_iff_getElem.1 h
    have : x ∈ l := by have := List.getElem_mem hi; simp at hp; rwa [hp] at this
    simp [this]
theorem findIdx_none_of {α : Type} {p : α → Bool} {l : List α} (h : Hid ((l.take l.length).any p = false)) : l.findIdx? p = none := by
  rw [List.take_length] at h
  have := List.any_eq_false.1 h.out
  exact List.findIdx?_eq_none_iff.2 fun x hx => by simpa using this x hx
theorem findIdx_some_of {α : Type} {p : α → Bool} {l : List α} {k : Nat} (h : k < l.length) (hi : Hid ((l.take k).any p = false)) (hp : p l[k] = true) : l.findIdx? p = some k := by
  refine List.findIdx?_eq_some_iff_getElem.2 ⟨h, hp, fun j hj => ?_⟩
  have := List.any_eq_false.1 hi.out (l[j]) (by rw [List.mem_take_iff_getElem]; exact ⟨j, by omega, rfl⟩)
  simpa using this
theorem litTrue_pos {t : List Bool} {k : Nat} (h : k < t.length) {n : Int} (hn : n = (k : Int) + 1) : litTrue t n = t[k] := by
  subst hn
  simp only [litTrue]
  rw [if_pos (by omega), show ((k : Int) + 1).toNat - 1 = k by omega]
  simp [List.getD, h]
theorem litTrue_neg {t : List Bool} {k : Nat} (h : k < t.length) {n : Int} (hn : n = -((k : Int) + 1)) : litTrue t n = !t[k] := by
  subst hn
  simp only [litTrue]
  rw [if_neg (by omega), if_pos (by omega), show (-(-((k : Int) + 1))).toNat - 1 = k by omega]
  simp [List.getD, h]
theorem litTrue_none {t : List Bool} {n : Int} (h1 : ¬ (1 ≤ n ∧ n ≤ t.length)) (h2 : ¬ (-(t.length : Int) ≤ n ∧ n ≤ -1)) : litTrue t n = decide (n < 0) := by
  simp only [litTrue]
  by_cases h : 0 < n
  · rw [if_pos h, List.getD, List.getElem?_eq_none (by omega)]; simp; omega
  · rw [if_neg h]
    by_cases h3 : n < 0
    · rw [if_pos h3, List.getD, List.getElem?_eq_none (by omega)]; simp; omega
    · rw [if_neg h3]; simp; omega

end Go.Proofs.Ytcebafeaikipmaa

namespace Go.Proofs.Ytcebafeaikipmaa
open Go.RowKit

theorem clauseTrue_succ {t : List Bool} {c : List Int} {j : Nat} (h : j < c.length) : clauseTrue t (c.take (j + 1)) = (clauseTrue t (c.take j) || litTrue t c[j]) := any_take_succ _ _ _ h
theorem holdsI_iff {cls : List (List Int)} {t : List Bool} : holdsI cls t = -1 ↔ cls.all (clauseTrue t) = true := by
  unfold holdsI
  cases h : cls.findIdx? (fun c => !clauseTrue t c) with
  | none =>
    have := List.findIdx?_eq_none_iff.1 h
    simp at this
    simpa using this
  | some i =>
    obtain ⟨hi, hp, _⟩ := List.findIdx?_eq_some_iff_getElem.1 h
    simp at hp
    have : cls.all (clauseTrue t) = false := all_at (h := hi) hp
    simp [this]

theorem callFunc_run {P : Program} {f : FuncId} {fn : Func} (hf : P.funcs[f]? = some fn) (hn : (fn.name == "runtime.NumGoroutine") = false) (hb : fn.body.isNone = false) (args : Array Value) (w : World) : (callFunc f args).run P w = .ok (.enter f args) w := by
  cases hc : fn.body with
  | none => simp [hc] at hb
  | some c => simp at hn; simp [callFunc, program, Sem.run, hf, hc, hn]
/-! ### The closure of Right: does 'taken' hold the number? -/
def idxFn (p : Int → Bool) (l : List Int) : Int := match l.findIdx? p with | some i => i | none => -1
theorem idxFn_nonneg (p : Int → Bool) (l : List Int) : decide (0 ≤ idxFn p l) = l.any p := by
  unfold idxFn
  cases h : l.findIdx? p with
  | none =>
    have := List.findIdx?_eq_none_iff.1 h
    have hn : l.any p = false := by rw [List.any_eq_false]; intro x hx; simp [this x hx]
    simp [hn]
  | some i =>
    obtain ⟨hi, hp, _⟩ := List.findIdx?_eq_some_iff_getElem.1 h
    simp [any_at (h := hi) hp]
end Go.Proofs.Ytcebafeaikipmaa
