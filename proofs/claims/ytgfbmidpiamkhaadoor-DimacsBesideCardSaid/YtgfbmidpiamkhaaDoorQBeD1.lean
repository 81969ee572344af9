/- What DimacsBeside makes of a text, byte by byte. Plain. -/
import Derived.Test.YtgfbmidpiamkhaaDoorQBkD2
namespace Go.Proofs.YtgfbmidpiamkhaaDoor
namespace D28

theorem transL_snoc (note : Bs) (how : Nat) (b : UInt8) : ∀ (a : Bs) (n : Nat), transL note how n (a ++ [b]) = transL note how n a ++ (if b = 32 then sepB note how (n + a.count 32 + 1) else [b])
  | [], n => by
    rw [List.nil_append, transL, transL, transL]
    split <;> simp [transL]
  | c :: a, n => by
    rw [List.cons_append, transL, transL]
    by_cases hc : c = 32
    · rw [if_pos hc, if_pos hc, transL_snoc note how b a (n + 1), List.append_assoc, hc, List.count_cons_self, show n + 1 + a.count 32 + 1 = n + (a.count 32 + 1) + 1 by omega]
    · rw [if_neg hc, if_neg hc, transL_snoc note how b a n, List.count_cons_of_ne (fun e => hc e)]; rfl
theorem sepB_len {note : Bs} (h : note.length ≤ 300) (how n : Nat) : (sepB note how n).length ≤ 306 := by
  unfold sepB
  split <;> simp <;> omega
theorem transL_len {note : Bs} (h : note.length ≤ 300) (how : Nat) : ∀ (a : Bs) (n : Nat), (transL note how n a).length ≤ a.length + 306 * a.count 32
  | [], n => by simp [transL]
  | c :: a, n => by
    rw [transL]
    by_cases hc : c = 32
    · rw [if_pos hc, hc, List.count_cons_self, List.length_append, List.length_cons]
      have h1 := transL_len h how a (n + 1)
      have h2 := sepB_len h how (n + 1)
      omega
    · rw [if_neg hc, List.count_cons_of_ne (fun e => hc e), List.length_cons, List.length_cons]
      have h1 := transL_len h how a n
      omega
theorem count_numL (x : Int) : (numL x).count 32 = 0 := List.count_eq_zero.2 fun h => (numL_mem h).2.2.2 rfl
theorem count_lits (c : List Int) : (c.flatMap litT).count 32 = c.length := by
  induction c with
  | nil => rfl
  | cons x c ih =>
    rw [List.flatMap_cons, List.count_append, ih]
    unfold litT
    rw [List.count_append, count_numL, List.length_cons]
    have : ([32] : Bs).count 32 = 1 := by decide
    omega
theorem count_printL {l : List (List Int)} (h : ∀ c ∈ l, c.length ≤ 30) : (printL l).count 32 ≤ 30 * l.length := by
  induction l with
  | nil => simp [printL]
  | cons c l ih =>
    have e : printL (c :: l) = lineL c ++ printL l := by simp [printL]
    have h1 := ih fun x hx => h x (by simp [hx])
    have h2 := h c (by simp)
    rw [e, List.count_append, List.length_cons]
    have h3 : (lineL c).count 32 = c.length := by
      unfold lineL
      rw [List.count_append, count_lits]
      have : ([48, 10] : Bs).count 32 = 0 := by decide
      omega
    omega

/-- the text that is gone through: a note, two line ends, a question -/
structure Bsd where
  note : Bs
  vars : Int
  cls : List (List Int)
def Bsd.pre (q : Bsd) : Bs := (99 :: q.note) ++ [10, 10]
def Bsd.head (q : Bsd) : Bs := q.pre ++ headQ q.vars q.cls.length
def Bsd.H (q : Bsd) : Nat := q.head.length
def Bsd.S (q : Bsd) : Bs := q.head ++ printL q.cls
def Bsd.out (q : Bsd) (how i : Nat) : Bs := q.head.take i ++ transL q.note how 0 ((printL q.cls).take (i - q.H))
def Bsd.cnt (q : Bsd) (i : Nat) : Nat := ((printL q.cls).take (i - q.H)).count 32
theorem Bsd.S_eq (q : Bsd) : q.S = ((99 :: q.note) ++ [10, 10]) ++ printQ q.vars q.cls := by
  unfold Bsd.S Bsd.head Bsd.pre; rw [printQ_head, List.append_assoc]
theorem headQ_form (vars : Int) (n : Nat) : ∃ b, headQ vars n = b ++ [10] ∧ (10 : UInt8) ∉ b := by
  refine ⟨pcnf ++ numL vars ++ [32] ++ numL n, rfl, fun h => ?_⟩
  simp only [List.mem_append] at h
  rcases h with ((h | h) | h) | h
  · exact absurd h (by decide)
  · exact (numL_mem h).2.2.1 rfl
  · exact absurd h (by decide)
  · exact (numL_mem h).2.2.1 rfl
theorem Bsd.pre_len (q : Bsd) : q.pre.length = q.note.length + 3 := by unfold Bsd.pre; simp
theorem Bsd.H_pos (q : Bsd) : q.note.length + 3 < q.H := by
  obtain ⟨b, hb, _⟩ := headQ_form q.vars q.cls.length
  unfold Bsd.H Bsd.head
  rw [List.length_append, hb, q.pre_len]; simp
theorem Bsd.len (q : Bsd) : q.S.length = q.H + (printL q.cls).length := by unfold Bsd.S Bsd.H; simp
/-- ahead of the end of the first line: what it is -/
theorem Bsd.before (q : Bsd) {i : Nat} (h : i + 1 < q.H) (hi : i < q.S.length) : q.S[i] = 10 → i ≤ q.note.length + 2 := by
  obtain ⟨b, hb, hn⟩ := headQ_form q.vars q.cls.length
  intro e
  rcases Nat.lt_or_ge (q.note.length + 2) i with h2 | h2
  · exfalso
    have hl := q.pre_len
    have hH : q.H = q.note.length + 3 + b.length + 1 := by unfold Bsd.H Bsd.head; rw [hb]; simp [hl]; omega
    have hS : q.S = q.pre ++ (b ++ ([10] ++ printL q.cls)) := by unfold Bsd.S Bsd.head; rw [hb]; simp
    apply hn
    have : q.S[i]? = some 10 := by rw [List.getElem?_eq_getElem hi, e]
    rw [hS, List.getElem?_append_right (by omega), List.getElem?_append_left (by omega)] at this
    exact List.mem_of_getElem? this
  · exact h2
theorem Bsd.at_end (q : Bsd) {i : Nat} (h : i + 1 = q.H) (hi : i < q.S.length) : q.S[i] = 10 := by
  obtain ⟨b, hb, hn⟩ := headQ_form q.vars q.cls.length
  have hl := q.pre_len
  have hH : q.H = q.note.length + 3 + b.length + 1 := by unfold Bsd.H Bsd.head; rw [hb]; simp [hl]; omega
  have hS : q.S = q.pre ++ (b ++ ([10] ++ printL q.cls)) := by unfold Bsd.S Bsd.head; rw [hb]; simp
  have : q.S[i]? = some 10 := by
    rw [hS, List.getElem?_append_right (by omega), List.getElem?_append_right (by omega), show i - q.pre.length - b.length = 0 by omega]; rfl
  rw [List.getElem?_eq_getElem hi] at this
  exact Option.some.inj this
theorem Bsd.out_head (q : Bsd) (how : Nat) {i : Nat} (h : i < q.H) (hi : i < q.S.length) : q.out how (i + 1) = q.out how i ++ [q.S[i]] ∧ q.cnt (i + 1) = q.cnt i := by
  have e0 : i - q.H = 0 := by omega
  have e1 : i + 1 - q.H = 0 := by omega
  unfold Bsd.out Bsd.cnt
  rw [e0, e1, List.take_zero]
  refine ⟨?_, rfl⟩
  rw [transL, List.append_nil, List.append_nil, List.take_succ_eq_append_getElem h]
  congr 2
  have e : q.S[i]? = q.head[i]? := List.getElem?_append_left (l₂ := printL q.cls) h
  rw [List.getElem?_eq_getElem hi, List.getElem?_eq_getElem (show i < q.head.length from h)] at e
  exact (Option.some.inj e).symm
theorem Bsd.out_tail (q : Bsd) (how : Nat) {i : Nat} (h : q.H ≤ i) (hi : i < q.S.length) : q.out how (i + 1) = q.out how i ++ (if q.S[i] = 32 then sepB q.note how (q.cnt i + 1) else [q.S[i]]) ∧ q.cnt (i + 1) = q.cnt i + (if q.S[i] = 32 then 1 else 0) := by
  have hl := q.len
  have hj : i - q.H < (printL q.cls).length := by omega
  have e1 : i + 1 - q.H = (i - q.H) + 1 := by omega
  have eS : q.S[i] = (printL q.cls)[i - q.H] := by
    have e : q.S[i]? = (printL q.cls)[i - q.H]? := List.getElem?_append_right (l₁ := q.head) h
    rw [List.getElem?_eq_getElem hi, List.getElem?_eq_getElem hj] at e
    exact Option.some.inj e
  unfold Bsd.out Bsd.cnt
  rw [e1, List.take_succ_eq_append_getElem hj, transL_snoc, List.take_of_length_le (show q.head.length ≤ i + 1 by have : q.head.length = q.H := rfl; omega), List.take_of_length_le (show q.head.length ≤ i from h), eS, Nat.zero_add, List.append_assoc]
  refine ⟨rfl, ?_⟩
  rw [List.count_append]
  congr 1
  by_cases hc : (printL q.cls)[i - q.H] = 32
  · rw [if_pos hc, hc]; rfl
  · rw [if_neg hc, List.count_singleton]; simp [hc]
theorem Bsd.out_all (q : Bsd) (how : Nat) : q.out how q.S.length = q.head ++ transL q.note how 0 (printL q.cls) := by
  have hl := q.len
  unfold Bsd.out
  rw [List.take_of_length_le (show q.head.length ≤ _ by have : q.head.length = q.H := rfl; omega), List.take_of_length_le (by omega)]
theorem Bsd.start (q : Bsd) (h : (10 : UInt8) ∉ q.note) : q.pre.foldl lstep .start = ⟨[], 3, ([], [])⟩ := by
  have e : q.pre = ((99 :: q.note) ++ [10]) ++ [10] := by unfold Bsd.pre; simp
  rw [e, List.foldl_append, show LS.start = ⟨[], 1, ([], [])⟩ from rfl, fold_note _ h]; rfl
theorem Bsd.pok (q : Bsd) (how : Nat) (hl : LightL q.cls) (hm : satMayN q.vars q.cls = 0) (hn : (10 : UInt8) ∉ q.note) :
    POk (q.out how q.S.length) q.vars q.cls.length (linesFrom ⟨[], 4, ([], [])⟩ (transL q.note how 0 (printL q.cls))) q.cls := by
  rw [q.out_all]
  exact parse_back hl hm hn how 0 q.pre 3 (q.start hn)
theorem Bsd.out_len (q : Bsd) (how i : Nat) (hl : LightL q.cls) (hm : 0 ≤ q.vars ∧ q.vars ≤ 1024) (hn : q.note.length ≤ 300) : (q.out how i).length ≤ 700000 ∧ q.cnt i ≤ 1800 := by
  have h1 := transL_len hn how ((printL q.cls).take (i - q.H)) 0
  have h2 : ((printL q.cls).take (i - q.H)).count 32 ≤ (printL q.cls).count 32 := (List.take_sublist _ _).count_le 32
  have h3 := count_printL (l := q.cls) fun c hc => (hl.2 c hc).1
  have h4 := hl.pre q.cls.length
  rw [List.take_length] at h4
  have h5 := hl.1
  have h6 : q.head.length ≤ 400 := by
    unfold Bsd.head headQ
    have a1 := numL_len (x := q.vars) (by omega)
    have a2 := numL_len (x := (q.cls.length : Int)) (by omega)
    have a3 := q.pre_len
    simp only [List.length_append, List.length_cons, List.length_nil, show pcnf.length = 6 from rfl, a3]; omega
  have h7 : (q.head.take i).length ≤ 400 := by rw [List.length_take]; omega
  have h8 : ((printL q.cls).take (i - q.H)).length ≤ 42000 := by rw [List.length_take]; omega
  unfold Bsd.out Bsd.cnt
  rw [List.length_append]
  omega
theorem printQ_le {vars : Int} {l : List (List Int)} (hl : LightL l) (hv : 0 ≤ vars ∧ vars ≤ 1024) : (printQ vars l).length ≤ 50000 := by
  have h1 := numL_len (x := vars) (by omega)
  have h2 := numL_len (x := (l.length : Int)) (by have := hl.1; omega)
  have h3 := hl.pre l.length
  rw [List.take_length] at h3
  unfold printQ
  simp only [List.length_append, List.length_cons, List.length_nil, show pcnf.length = 6 from rfl]
  omega
end D28
end Go.Proofs.YtgfbmidpiamkhaaDoor
