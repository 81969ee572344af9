/- Maps whose keys are plain data (strings, structs of strings, numbers): what a lookup, a store, an entry read and stored again do. No function of the program is in sight. -/
import Derived.Test.YtpgdioopkcfjdaaBase
import Derived.Maps.OwnOps
namespace Go.Proofs.Ytpgdioopkcfjdaa
open Go.RowKit

section
variable {κ : Type}
def EntOf (enc : κ → Value) (es : List MapEntry) (l : List (κ × Value)) : Prop := es.map (fun e => (e.key, e.val)) = l.map fun p => (enc p.1, p.2)
theorem EntOf.cons {enc : κ → Value} {e : MapEntry} {es : List MapEntry} {l : List (κ × Value)} (h : EntOf enc (e :: es) l) : ∃ p r, l = p :: r ∧ e.key = enc p.1 ∧ e.val = p.2 ∧ EntOf enc es r := by
  cases l with
  | nil => simp [EntOf] at h
  | cons p r => simp [EntOf] at h; exact ⟨p, r, rfl, h.1.1, h.1.2, h.2⟩
theorem EntOf.nil {enc : κ → Value} {l : List (κ × Value)} (h : EntOf enc [] l) : l = [] := by
  cases l with
  | nil => rfl
  | cons p r => simp [EntOf] at h
theorem EntOf.at_ {enc : κ → Value} {es : List MapEntry} {l : List (κ × Value)} (h : EntOf enc es l) {i : Nat} {p : κ × Value} (hi : l[i]? = some p) : ∃ e, es[i]? = some e ∧ e.key = enc p.1 ∧ e.val = p.2 := by
  have := congrArg (·[i]?) h
  simp only [List.getElem?_map, hi, Option.map_some] at this
  cases he : es[i]? with
  | none => simp [he] at this
  | some e => simp [he] at this; exact ⟨e, rfl, this.1, this.2⟩
theorem EntOf.set_ {enc : κ → Value} {es : List MapEntry} {l : List (κ × Value)} (h : EntOf enc es l) (i : Nat) (g : MapEntry → MapEntry) (k : κ) (u : Value) (hg : ∀ e, es[i]? = some e → (g e).key = enc k ∧ (g e).val = u) :
    EntOf enc (es.modify i g) (l.set i (k, u)) := by
  unfold EntOf at *
  apply List.ext_getElem?
  intro j
  have hj := congrArg (·[j]?) h
  simp only [List.getElem?_map, List.getElem?_modify, List.getElem?_set] at *
  by_cases hij : i = j
  · subst hij
    have hl : es.length = l.length := by simpa using congrArg List.length h
    cases he : es[i]? with
    | none => rw [List.getElem?_eq_none_iff] at he; simp [show ¬ i < l.length by omega]
    | some e =>
      have := (List.getElem?_eq_some_iff.1 he).1
      obtain ⟨h1, h2⟩ := hg e he
      simp [show i < l.length by omega, h1, h2]
  · simp [hij]; simpa using hj
variable [DecidableEq κ]
/-- What is known of a key type: kt the type's number, enc the key as a value. -/
structure KeyLaw (P : Program) (kt : TypeId) (enc : κ → Value) : Prop where
  check : ∀ b k w, (Instr.checkKey b 10000 kt (enc k)).run P w = .ok () w
  eq : ∀ a b w, (Op.equal kt (enc a) (enc b)).run P w = .ok (decide (a = b)) w
  bits : ∀ a, Instr.sameBits 10000 (enc a) (enc a) = true
  kind : ∃ d, P.underlying kt = some d ∧ ∀ a b, Instr.sameNow d (enc a) (enc b) = none ∨ Instr.sameNow d (enc a) (enc b) = some (decide (a = b))

def findA (k : κ) : List (κ × Value) → Nat → Option (Nat × Value)
  | [], _ => none
  | p :: l, i => if k = p.1 then some (i, p.2) else findA k l (i + 1)
theorem run_findAsking {P : Program} {kt : TypeId} {enc : κ → Value} (K : KeyLaw P kt enc) (k : κ) (w : World) : ∀ (es : List MapEntry) (l : List (κ × Value)) (i : Nat), EntOf enc es l →
    (Instr.findAsking kt (enc k) es i).run P w = .ok (findA k l i) w
  | [], l, i, h => by
    obtain rfl := h.nil
    simp [Instr.findAsking, findA]
  | e :: es, l, i, h => by
    obtain ⟨p, r, rfl, h1, h2, h3⟩ := h.cons
    have ih := run_findAsking K k w es r (i + 1) h3
    unfold Instr.findAsking findA
    rw [h1, h2]
    simp only [Sem.run_bind, K.eq, Result.andThen_ok]
    by_cases hk : k = p.1
    · simp [hk]
    · simp [hk, ih]
theorem findNow_find {P : Program} {kt : TypeId} {enc : κ → Value} {d : TypeDesc} (hd : ∀ a b, Instr.sameNow d (enc a) (enc b) = none ∨ Instr.sameNow d (enc a) (enc b) = some (decide (a = b))) (k : κ) : ∀ (es : List MapEntry) (l : List (κ × Value)) (i : Nat), EntOf enc es l →
    Instr.findNow d (enc k) es i = none ∨ Instr.findNow d (enc k) es i = some (findA k l i)
  | [], l, i, h => by
    obtain rfl := h.nil
    exact .inr rfl
  | e :: es, l, i, h => by
    obtain ⟨p, r, rfl, h1, h2, h3⟩ := h.cons
    have ih := findNow_find (P := P) (kt := kt) hd k es r (i + 1) h3
    unfold Instr.findNow findA
    rw [h1, h2]
    rcases hd k p.1 with hn | hs
    · rw [hn]; exact .inl rfl
    · rw [hs]
      by_cases hk : k = p.1
      · simp [hk]
      · simp only [hk, decide_false, if_false]; exact ih
theorem run_findKey {P : Program} {kt : TypeId} {enc : κ → Value} (K : KeyLaw P kt enc) (k : κ) (w : World) {es : List MapEntry} {l : List (κ × Value)} (h : EntOf enc es l) :
    (Instr.findKey kt (enc k) es).run P w = .ok (findA k l 0) w := by
  obtain ⟨d, hd, hk⟩ := K.kind
  unfold Instr.findKey
  simp only [Sem.run_bind, run_underlying hd, Result.andThen_ok]
  rcases findNow_find (P := P) (kt := kt) hk k es l 0 h with hn | hs
  · rw [hn]; exact run_findAsking K k w es l 0 h
  · rw [hs]; rfl

def setObjW (w : World) (r : Nat) (o : Obj) : World := { w with heap := w.heap.setIfInBounds r o }
theorem grown_setObjW (w : World) (r : Nat) (o : Obj) : w.grownBy (setObjW w r o) (some r) :=
  ⟨rfl, rfl, rfl, by simp [setObjW], fun k _ hne => by simp only [setObjW]; rw [Array.getElem?_setIfInBounds_ne (by rintro rfl; exact hne rfl)]⟩

/-- Block r is a map that holds just f. -/
def MapIs (enc : κ → Value) (w : World) (r : Nat) (f : κ → Option Value) : Prop :=
  ∃ es clock l, w.heap[r]? = some (.map es clock) ∧ EntOf enc es.toList l ∧ (es.toList.map (·.born)).Pairwise (· ≠ ·) ∧ (∀ e ∈ es.toList, e.born < clock) ∧ ∀ k, f k = (findA k l 0).map (·.2)
/-- The same, and the entry of key k bears the stamp s. -/
def MapStamp (enc : κ → Value) (w : World) (r : Nat) (f : κ → Option Value) (k : κ) (s : Nat) : Prop :=
  ∃ es clock l i v e, w.heap[r]? = some (.map es clock) ∧ EntOf enc es.toList l ∧ (es.toList.map (·.born)).Pairwise (· ≠ ·) ∧ (∀ e ∈ es.toList, e.born < clock) ∧ (∀ k, f k = (findA k l 0).map (·.2)) ∧
    findA k l 0 = some (i, v) ∧ es.toList[i]? = some e ∧ e.born = s
theorem MapIs.agree {enc : κ → Value} {w w' : World} {r : Nat} {f : κ → Option Value} (h : MapIs enc w r f) (ha : w'.heap[r]? = w.heap[r]?) : MapIs enc w' r f := by
  obtain ⟨es, c, l, h1, h2⟩ := h
  exact ⟨es, c, l, ha.trans h1, h2⟩
theorem MapStamp.agree {enc : κ → Value} {w w' : World} {r : Nat} {f : κ → Option Value} {k : κ} {s : Nat} (h : MapStamp enc w r f k s) (ha : w'.heap[r]? = w.heap[r]?) : MapStamp enc w' r f k s := by
  obtain ⟨es, c, l, i, v, e, h1, h2⟩ := h
  exact ⟨es, c, l, i, v, e, ha.trans h1, h2⟩
theorem MapIs.lt {enc : κ → Value} {w : World} {r : Nat} {f : κ → Option Value} (h : MapIs enc w r f) : r < w.heap.size := by
  obtain ⟨es, c, l, h1, _⟩ := h
  exact (Array.getElem?_eq_some_iff.1 h1).1
theorem MapIs.made (enc : κ → Value) (w : World) : MapIs enc (w.alloc (.map #[] 0)) w.heap.size fun _ => none :=
  ⟨#[], 0, [], heap_alloc_new w _, rfl, by simp, by simp, fun _ => rfl⟩

theorem findA_some {k : κ} : ∀ {l : List (κ × Value)} {i j : Nat} {v : Value}, findA k l i = some (j, v) → ∃ m, j = i + m ∧ l[m]? = some (k, v) ∧ m < l.length
  | [], i, j, v, h => by simp [findA] at h
  | p :: l, i, j, v, h => by
    unfold findA at h
    split at h
    · rename_i hk
      simp at h
      exact ⟨0, by omega, by simp [hk, ← h.2], by simp⟩
    · obtain ⟨m, h1, h2, h3⟩ := findA_some h
      exact ⟨m + 1, by omega, by simpa using h2, by simp; omega⟩
/-- Another value at the place where k is found. -/
theorem findA_set (k k' : κ) (u : Value) : ∀ (l : List (κ × Value)) (i j : Nat) (v : Value), findA k l i = some (j, v) → (findA k' (l.set (j - i) (k, u)) i).map (·.2) = if k' = k then some u else (findA k' l i).map (·.2)
  | [], i, j, v, h => by simp [findA] at h
  | p :: l, i, j, v, h => by
    unfold findA at h
    split at h
    · rename_i hk
      simp at h
      rw [← h.1, Nat.sub_self, List.set_cons_zero]
      unfold findA
      by_cases hk' : k' = k
      · simp [hk']
      · have : k' ≠ p.1 := fun e => hk' (e.trans hk.symm)
        simp [hk', this]
    · rename_i hk
      obtain ⟨m, hm, _, _⟩ := findA_some h
      rw [show j - i = (j - (i + 1)) + 1 by omega, List.set_cons_succ]
      unfold findA
      by_cases hk' : k' = p.1
      · have : k' ≠ k := fun e => hk (e.symm.trans hk')
        rw [if_pos hk', if_pos hk', if_neg this]
      · rw [if_neg hk', if_neg hk', findA_set k k' u l (i + 1) j v h]
theorem findA_push (k k' : κ) (u : Value) : ∀ (l : List (κ × Value)) (i : Nat), findA k l i = none → (findA k' (l ++ [(k, u)]) i).map (·.2) = if k' = k then some u else (findA k' l i).map (·.2)
  | [], i, _ => by
    by_cases hk' : k' = k <;> simp [findA, hk']
  | p :: l, i, h => by
    unfold findA at h
    split at h
    · simp at h
    · rename_i hk
      rw [List.cons_append]
      unfold findA
      by_cases hk' : k' = p.1
      · have : k' ≠ k := fun e => hk (e.symm.trans hk')
        rw [if_pos hk', if_pos hk', if_neg this]
      · rw [if_neg hk', if_neg hk', findA_push k k' u l (i + 1) h]
theorem findA_push_at (k : κ) (u : Value) : ∀ (l : List (κ × Value)) (i : Nat), findA k l i = none → findA k (l ++ [(k, u)]) i = some (i + l.length, u)
  | [], i, _ => by simp [findA]
  | p :: l, i, h => by
    unfold findA at h
    split at h
    · simp at h
    · rename_i hk
      rw [List.cons_append]
      unfold findA
      rw [if_neg hk, findA_push_at k u l (i + 1) h]
      simp; omega
theorem findA_set_at (k : κ) (u : Value) : ∀ (l : List (κ × Value)) (i j : Nat) (v : Value), findA k l i = some (j, v) → findA k (l.set (j - i) (k, u)) i = some (j, u)
  | [], i, j, v, h => by simp [findA] at h
  | p :: l, i, j, v, h => by
    unfold findA at h
    split at h
    · simp at h
      rw [← h.1, Nat.sub_self, List.set_cons_zero]
      simp [findA]
    · rename_i hk
      obtain ⟨m, hm, _, _⟩ := findA_some h
      rw [show j - i = (j - (i + 1)) + 1 by omega, List.set_cons_succ]
      unfold findA
      rw [if_neg hk, findA_set_at k u l (i + 1) j v h]

theorem modify_toList {α : Type} (a : Array α) (i : Nat) (f : α → α) : (a.modify i f).toList = a.toList.modify i f := by
  apply List.ext_getElem?
  intro j
  simp [List.getElem?_modify, Array.getElem?_toList]
theorem born_modify {es : List MapEntry} (i : Nat) (g : MapEntry → MapEntry) (hg : ∀ e, (g e).born = e.born) : (es.modify i g).map (·.born) = es.map (·.born) := by
  apply List.ext_getElem?
  intro j
  simp only [List.getElem?_map, List.getElem?_modify]
  by_cases h : i = j
  · subst h; cases es[i]? <;> simp [hg]
  · simp [h]
theorem born_lt_modify {es : List MapEntry} {i : Nat} {g : MapEntry → MapEntry} {c : Nat} (hg : ∀ e, (g e).born = e.born) (h : ∀ e ∈ es, e.born < c) : ∀ e ∈ es.modify i g, e.born < c := by
  intro e he
  have : e.born ∈ (es.modify i g).map (·.born) := List.mem_map_of_mem he
  rw [born_modify i g hg] at this
  obtain ⟨e', h1, h2⟩ := List.mem_map.1 this
  rw [← h2]; exact h e' h1

theorem heap_setObjW {w : World} {r : Nat} {o o' : Obj} (h : w.heap[r]? = some o') : (setObjW w r o).heap[r]? = some o := by
  have := (Array.getElem?_eq_some_iff.1 h).1
  simp [setObjW, this]
theorem run_setObj_map {P : Program} {w : World} {r : Nat} {es : Array MapEntry} {c : Nat} (h : w.heap[r]? = some (.map es c)) (o : Obj) : (setObj r o).run P w = .ok () (setObjW w r o) := by
  simp [setObj, Sem.run, h, setObjW]
theorem run_getObj_map {P : Program} {w : World} {r : Nat} {es : Array MapEntry} {c : Nat} (h : w.heap[r]? = some (.map es c)) : (getObj r).run P w = .ok (.map es c) w := by
  simp [getObj, Sem.run, h]
theorem run_keyThatStays {P : Program} {kt : TypeId} {enc : κ → Value} (K : KeyLaw P kt enc) (k : κ) (w : World) : (Instr.keyThatStays (enc k) (enc k)).run P w = .ok (enc k) w := by
  unfold Instr.keyThatStays
  rw [K.bits]; rfl

variable {P : Program} {kt vt T : TypeId} {enc : κ → Value}
theorem run_lookup_is (K : KeyLaw P kt enc) (hT : P.underlying T = some (.map kt vt)) {z : Value} (hz : ∀ w, (zeroValue vt).run P w = .ok z w) {w : World} {r : Nat} {f : κ → Option Value} (h : MapIs enc w r f) (k : κ) (c : Bool) :
    (Instr.lookup T (.map (some r)) (enc k) c).run P w = .ok (if c then .tuple #[(f k).getD z, .bool (f k).isSome] else (f k).getD z) w := by
  obtain ⟨es, cl, l, h1, h2, _, _, h5⟩ := h
  unfold Instr.lookup
  simp only [Sem.run_bind, run_underlying hT, Result.andThen_ok, run_getObj_map h1, Sem.run_pure, K.check, run_findKey K k w h2]
  rw [h5]
  cases findA k l 0 with
  | none => cases c <;> simp [hz]
  | some iv => obtain ⟨i, v⟩ := iv; cases c <;> rfl
theorem run_lookup_nil (K : KeyLaw P kt enc) (hT : P.underlying T = some (.map kt vt)) {z : Value} (hz : ∀ w, (zeroValue vt).run P w = .ok z w) (w : World) (k : κ) (c : Bool) :
    (Instr.lookup T (.map none) (enc k) c).run P w = .ok (if c then .tuple #[z, .bool false] else z) w := by
  unfold Instr.lookup
  simp only [Sem.run_bind, run_underlying hT, Result.andThen_ok, Sem.run_pure, K.check, run_findKey K k w (es := (#[] : Array MapEntry).toList) (l := []) rfl]
  cases c <;> simp [findA, hz]
def updF (f : κ → Option Value) (k : κ) (v : Value) : κ → Option Value := fun k' => if k' = k then some v else f k'

theorem run_mapUpdate_is (K : KeyLaw P kt enc) (hT : P.underlying T = some (.map kt vt)) {w : World} {r : Nat} {f : κ → Option Value} (h : MapIs enc w r f) (k : κ) (v : Value) :
    ∃ w', (Instr.mapUpdate T (.map (some r)) (enc k) v).run P w = .ok () w' ∧ MapIs enc w' r (updF f k v) ∧ w.grownBy w' (some r) ∧ w'.heap.size = w.heap.size := by
  obtain ⟨es, cl, l, h1, h2, h3, h4, h5⟩ := h
  unfold Instr.mapUpdate
  simp only [Sem.run_bind, run_underlying hT, Result.andThen_ok, run_getObj_map h1, K.check, run_findKey K k w h2]
  cases hf : findA k l 0 with
  | none =>
    refine ⟨_, run_setObj_map h1 _, ⟨_, _, l ++ [(k, v)], heap_setObjW h1, ?_, ?_, ?_, ?_⟩, grown_setObjW _ _ _, by simp [setObjW]⟩
    · simpa [EntOf] using h2
    · simp only [Array.toList_push, List.map_append, List.map_cons, List.map_nil]
      rw [List.pairwise_append]
      refine ⟨h3, by simp, fun a ha b hb => ?_⟩
      obtain ⟨e, he, rfl⟩ := List.mem_map.1 ha
      simp at hb
      subst hb
      have := h4 e he
      omega
    · intro e he
      simp at he
      rcases he with he | rfl
      · have := h4 e (by simpa using he); omega
      · simp
    · intro k'
      rw [findA_push k k' v l 0 hf, updF]
      split
      · rfl
      · exact h5 k'
  | some iv =>
    obtain ⟨i, v0⟩ := iv
    obtain ⟨m, hm, hl, _⟩ := findA_some hf
    have him : i = m := by omega
    subst him
    obtain ⟨e, he, hek, hev⟩ := h2.at_ hl
    have he' : es[i]? = some e := by simpa using he
    simp only [Sem.run_bind, Result.andThen_ok, he', Option.map_some, Option.getD_some, hek, run_keyThatStays K]
    refine ⟨_, run_setObj_map h1 _, ⟨_, _, l.set i (k, v), heap_setObjW h1, ?_, ?_, ?_, ?_⟩, grown_setObjW _ _ _, by simp [setObjW]⟩
    · rw [modify_toList]; exact h2.set_ i _ k v fun _ _ => ⟨rfl, rfl⟩
    · rw [modify_toList, born_modify]; exact h3; exact fun _ => rfl
    · rw [modify_toList]; exact born_lt_modify (fun _ => rfl) h4
    · intro k'
      have := findA_set k k' v l 0 i v0 hf
      rw [Nat.sub_zero] at this
      rw [this, updF]
      split
      · rfl
      · exact h5 k'

theorem run_mapEntry_is (K : KeyLaw P kt enc) (hT : P.underlying T = some (.map kt vt)) {z : Value} (hz : ∀ w, (zeroValue vt).run P w = .ok z w) {w : World} {r : Nat} {f : κ → Option Value} (h : MapIs enc w r f) (k : κ) :
    ∃ w' s, (Instr.mapEntry T (.map (some r)) (enc k)).run P w = .ok (.tuple #[(f k).getD z, goInt (s : Nat)]) w' ∧ MapStamp enc w' r (updF f k ((f k).getD z)) k s ∧ w.grownBy w' (some r) ∧ w'.heap.size = w.heap.size := by
  obtain ⟨es, cl, l, h1, h2, h3, h4, h5⟩ := h
  unfold Instr.mapEntry
  simp only [Sem.run_bind, run_underlying hT, Result.andThen_ok, run_getObj_map h1, K.check, run_findKey K k w h2]
  cases hf : findA k l 0 with
  | none =>
    have hfk : f k = none := by rw [h5, hf]; rfl
    rw [hfk]
    simp only [Sem.run_bind, Option.getD_none, hz, Result.andThen_ok, run_setObj_map h1]
    refine ⟨_, cl, rfl, ⟨_, _, l ++ [(k, z)], l.length, z, { key := enc k, val := z, born := cl }, heap_setObjW h1, ?_, ?_, ?_, ?_, ?_, ?_, rfl⟩, grown_setObjW _ _ _, by simp [setObjW]⟩
    · simpa [EntOf] using h2
    · simp only [Array.toList_push, List.map_append, List.map_cons, List.map_nil]
      rw [List.pairwise_append]
      refine ⟨h3, by simp, fun a ha b hb => ?_⟩
      obtain ⟨e, he, rfl⟩ := List.mem_map.1 ha
      simp at hb
      subst hb
      have := h4 e he
      omega
    · intro e he
      simp at he
      rcases he with he | rfl
      · have := h4 e (by simpa using he); omega
      · simp
    · intro k'
      rw [findA_push k k' z l 0 hf, updF]
      split
      · rfl
      · exact h5 k'
    · rw [findA_push_at k z l 0 hf, Nat.zero_add]
    · have hl : es.toList.length = l.length := by simpa using congrArg List.length h2
      simp only [Array.toList_push]
      rw [List.getElem?_append_right (by omega)]
      simp [hl]
  | some iv =>
    obtain ⟨i, v0⟩ := iv
    obtain ⟨m, hm, hl, _⟩ := findA_some hf
    have him : i = m := by omega
    subst him
    obtain ⟨e, he, hek, hev⟩ := h2.at_ hl
    have he' : es[i]? = some e := by simpa using he
    have hfk : f k = some v0 := by rw [h5, hf]; rfl
    rw [hfk]
    simp only [Sem.run_bind, Result.andThen_ok, he', Option.map_some, Option.getD_some, hek, run_keyThatStays K, run_setObj_map h1]
    refine ⟨_, e.born, rfl, ⟨_, _, l.set i (k, v0), i, v0, { e with key := enc k }, heap_setObjW h1, ?_, ?_, ?_, ?_, ?_, ?_, rfl⟩, grown_setObjW _ _ _, by simp [setObjW]⟩
    · rw [modify_toList]; exact h2.set_ i _ k v0 fun e1 he1 => by rw [he] at he1; injection he1 with he1; subst he1; exact ⟨rfl, hev⟩
    · rw [modify_toList, born_modify]; exact h3; exact fun _ => rfl
    · rw [modify_toList]; exact born_lt_modify (fun _ => rfl) h4
    · intro k'
      have := findA_set k k' v0 l 0 i v0 hf
      rw [Nat.sub_zero] at this
      rw [this, updF]
      split
      · rfl
      · exact h5 k'
    · have := findA_set_at k v0 l 0 i v0 hf
      rwa [Nat.sub_zero] at this
    · rw [modify_toList, List.getElem?_modify, he]; simp

theorem findIdx_born {es : List MapEntry} (h : (es.map (·.born)).Pairwise (· ≠ ·)) {i : Nat} {e : MapEntry} (he : es[i]? = some e) : es.findIdx? (fun x => (x.born : Int) == (e.born : Int)) = some i := by
  obtain ⟨hi, hee⟩ := List.getElem?_eq_some_iff.1 he
  refine List.findIdx?_eq_some_iff_getElem.2 ⟨hi, by simp [hee], fun j hj => ?_⟩
  have := (List.pairwise_iff_getElem.1 h) j i (by simp; omega) (by simpa using hi) hj
  simp [hee] at this
  simp; omega
theorem run_entryStore_is {w : World} {r : Nat} {f : κ → Option Value} {k : κ} {s : Nat} (h : MapStamp enc w r f k s) (v : Value) :
    ∃ w', (Instr.entryStore T (.map (some r)) (goInt (s : Nat)) v).run P w = .ok () w' ∧ MapIs enc w' r (updF f k v) ∧ w.grownBy w' (some r) ∧ w'.heap.size = w.heap.size := by
  obtain ⟨es, cl, l, i, v0, e, h1, h2, h3, h4, h5, h6, h7, rfl⟩ := h
  have hidx : es.findIdx? (fun x => (x.born : Int) == (e.born : Int)) = some i := by
    have := findIdx_born h3 h7
    rw [← List.findIdx?_toArray] at this
    simpa using this
  unfold Instr.entryStore
  simp only [Sem.run_bind, Result.andThen_ok, run_getObj_map h1, Sem.run_pure, goInt, asInt, asIntOf, hidx]
  obtain ⟨m, hm, hl, _⟩ := findA_some h6
  have him : i = m := by omega
  subst him
  refine ⟨_, run_setObj_map h1 _, ⟨_, _, l.set i (k, v), heap_setObjW h1, ?_, ?_, ?_, ?_⟩, grown_setObjW _ _ _, by simp [setObjW]⟩
  · obtain ⟨e', he', hek, _⟩ := h2.at_ hl
    rw [modify_toList]; exact h2.set_ i _ k v fun e1 he1 => by rw [he'] at he1; injection he1 with he1; subst he1; exact ⟨hek, rfl⟩
  · rw [modify_toList, born_modify]; exact h3; exact fun _ => rfl
  · rw [modify_toList]; exact born_lt_modify (fun _ => rfl) h4
  · intro k'
    have := findA_set k k' v l 0 i v0 h6
    rw [Nat.sub_zero] at this
    rw [this, updF]
    split
    · rfl
    · exact h5 k'
end
end Go.Proofs.Ytpgdioopkcfjdaa
