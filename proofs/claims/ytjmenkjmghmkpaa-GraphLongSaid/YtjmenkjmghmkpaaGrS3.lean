/- Graphs: groups put in order by the numbers of steps that come in: what is counted. Plain. -/
import Derived.Test.YtjmenkjmghmkpaaGrS2
namespace Go.Proofs.Ytjmenkjmghmkpaa
namespace G22

theorem getD_map_range (f : Nat → Nat) {n c : Nat} (hc : c < n) : gN ((List.range n).map f) c = f c := by simp [gN, List.getD, hc]
theorem set_map_range (f g : Nat → Nat) {n k : Nat} (x : Nat) (h : ∀ c, c < n → c ≠ k → f c = g c) (hx : g k = x) : ((List.range n).map f).set k x = (List.range n).map g := by
  refine List.ext_getElem (by simp) fun i h1 h2 => ?_
  have hi : i < n := by simpa using h2
  rw [List.getElem_set]
  simp only [List.getElem_map, List.getElem_range]
  split
  · next e => subst e; exact hx.symm
  · next e => exact h i hi fun e' => e e'.symm
theorem map_range_congr (f g : Nat → Nat) {n : Nat} (h : ∀ c, c < n → f c = g c) : (List.range n).map f = (List.range n).map g :=
  List.map_congr_left fun c hc => h c (by simpa using hc)
/-- what is counted in the first n rows, and the first j of row n -/
def crossTo (G : Gr) (grp : List Nat) (n j c : Nat) : Nat := sumN (List.range n) (fun a => cross G grp a c) + ((row G n).take j).countP fun b => gN grp b == c && gN grp n != c
def crossL (G : Gr) (grp : List Nat) (count n j : Nat) : List Nat := (List.range count).map (crossTo G grp n j)
def restL (G : Gr) (grp : List Nat) (D : List Bool) (count : Nat) : List Nat := (List.range count).map (rest G grp D)
theorem crossL_length (G : Gr) (grp : List Nat) (count n j : Nat) : (crossL G grp count n j).length = count := by simp [crossL]
theorem restL_length (G : Gr) (grp : List Nat) (D : List Bool) (count : Nat) : (restL G grp D count).length = count := by simp [restL]
theorem crossL_first (G : Gr) (grp : List Nat) (count : Nat) : crossL G grp count 0 0 = List.replicate count 0 := by
  refine List.ext_getElem (by simp [crossL]) fun i h1 h2 => ?_
  simp [crossL, crossTo, sumN]
theorem crossL_step {G : Gr} {grp : List Nat} {count n j b : Nat} (hb : (row G n)[j]? = some b) :
    crossL G grp count n (j + 1) = if gN grp n = gN grp b then crossL G grp count n j else (crossL G grp count n j).set (gN grp b) (gN (crossL G grp count n j) (gN grp b) + 1) := by
  have ht : (row G n).take (j + 1) = (row G n).take j ++ [b] := by
    obtain ⟨h, e⟩ := List.getElem?_eq_some_iff.1 hb
    rw [List.take_succ_eq_append_getElem h, e]
  have hc : ∀ c, crossTo G grp n (j + 1) c = crossTo G grp n j c + if gN grp b = c ∧ gN grp n ≠ c then 1 else 0 := fun c => by
    unfold crossTo
    rw [ht, List.countP_append, ← Nat.add_assoc]
    congr 1
    by_cases h1 : gN grp b = c <;> by_cases h2 : gN grp n = c <;> simp [h1, h2]
  split
  · next e =>
    refine map_range_congr _ _ fun c _ => ?_
    rw [hc, if_neg (by rintro ⟨h1, h2⟩; omega)]; rfl
  · next e =>
    by_cases hlt : gN grp b < count
    · refine (set_map_range _ _ _ (fun c hc' hne => ?_) ?_).symm
      · rw [hc, if_neg (by rintro ⟨h1, h2⟩; omega)]; rfl
      · rw [hc, if_pos ⟨rfl, e⟩, crossL, getD_map_range _ hlt]
    · rw [List.set_eq_of_length_le (by rw [crossL_length]; omega)]
      refine map_range_congr _ _ fun c hc' => ?_
      rw [hc, if_neg (by rintro ⟨h1, h2⟩; omega)]; rfl
theorem crossL_end (G : Gr) (grp : List Nat) (count n : Nat) : crossL G grp count n (row G n).length = crossL G grp count (n + 1) 0 := by
  refine map_range_congr _ _ fun c _ => ?_
  unfold crossTo
  rw [List.take_length, List.range_succ, sumN_append, List.take_zero]
  simp [sumN, cross]
theorem gB_replicate (n k : Nat) : gB (List.replicate n false) k = false := by
  unfold gB List.getD
  rw [List.getElem?_replicate]
  split <;> rfl
theorem crossL_all (G : Gr) (grp : List Nat) (count : Nat) : crossL G grp count G.length 0 = restL G grp (List.replicate count false) count := by
  refine map_range_congr _ _ fun c _ => ?_
  unfold crossTo rest
  rw [List.take_zero, List.filter_eq_self.2 fun a _ => by rw [gB_replicate]; rfl]
  simp
theorem cross_le {G : Gr} {grp : List Nat} {m a c : Nat} (h : ∀ a, (row G a).length ≤ m) : cross G grp a c ≤ m := Nat.le_trans (List.countP_le_length) (h a)
theorem sumN_le {l : List Nat} {f : Nat → Nat} {m : Nat} (h : ∀ a, f a ≤ m) : sumN l f ≤ l.length * m := by
  induction l with
  | nil => simp [sumN]
  | cons a l ih =>
    have : sumN (a :: l) f = f a + sumN l f := by simp [sumN]
    rw [this, List.length_cons, Nat.succ_mul]
    have := h a
    omega
theorem crossTo_le {G : Gr} {grp : List Nat} {m n j c : Nat} (h : ∀ a, (row G a).length ≤ m) : crossTo G grp n j c ≤ (n + 1) * m := by
  unfold crossTo
  have h1 := sumN_le (l := List.range n) (f := fun a => cross G grp a c) fun a => cross_le h
  have h2 : ((row G n).take j).countP (fun b => gN grp b == c && gN grp n != c) ≤ (row G n).length := Nat.le_trans List.countP_le_length (by simp; omega)
  have h3 := h n
  rw [List.length_range] at h1
  rw [Nat.succ_mul]
  omega
/-- a number that is counted, of whatever group -/
theorem gN_crossL_le {G : Gr} {grp : List Nat} {m n j c count : Nat} (h : ∀ a, (row G a).length ≤ m) : gN (crossL G grp count n j) c ≤ (n + 1) * m := by
  by_cases hc : c < count
  · rw [crossL, getD_map_range _ hc]; exact crossTo_le h
  · unfold gN List.getD; rw [List.getElem?_eq_none (by rw [crossL_length]; omega)]; exact Nat.zero_le _
/-- what is left where the first i of a group's nodes were gone through, and of the next one the first j steps -/
def midTo (G : Gr) (grp : List Nat) (D : List Bool) (ns : List Nat) (i c : Nat) : Nat := rest G grp D c + sumN (ns.drop i) fun a => cross G grp a c
def dropTo (G : Gr) (grp : List Nat) (D : List Bool) (ns : List Nat) (n i j c : Nat) : Nat := rest G grp D c + sumN (ns.drop (i + 1)) (fun a => cross G grp a c) + ((row G n).drop j).countP fun b => gN grp b == c && gN grp n != c
def midL (G : Gr) (grp : List Nat) (D : List Bool) (ns : List Nat) (count i : Nat) : List Nat := (List.range count).map (midTo G grp D ns i)
def dropL (G : Gr) (grp : List Nat) (D : List Bool) (ns : List Nat) (count n i j : Nat) : List Nat := (List.range count).map (dropTo G grp D ns n i j)
theorem midL_length (G : Gr) (grp : List Nat) (D : List Bool) (ns : List Nat) (count i : Nat) : (midL G grp D ns count i).length = count := by simp [midL]
theorem dropL_length (G : Gr) (grp : List Nat) (D : List Bool) (ns : List Nat) (count n i j : Nat) : (dropL G grp D ns count n i j).length = count := by simp [dropL]
theorem midL_first {G : Gr} {grp : List Nat} {D : List Bool} {best : Nat} (hb : best < D.length) (hd : gB D best = false) (count : Nat) : midL G grp (D.set best true) (nodesTo grp G.length best) count 0 = restL G grp D count :=
  map_range_congr _ _ fun c _ => by unfold midTo; rw [rest_step hb hd, List.drop_zero, Nat.add_comm]
theorem midL_last (G : Gr) (grp : List Nat) (D : List Bool) (ns : List Nat) (count : Nat) : midL G grp D ns count ns.length = restL G grp D count :=
  map_range_congr _ _ fun c _ => by unfold midTo; rw [List.drop_length]; simp [sumN]
theorem midL_open {G : Gr} {grp : List Nat} {D : List Bool} {ns : List Nat} {count i : Nat} (hi : i < ns.length) : midL G grp D ns count i = dropL G grp D ns count ns[i] i 0 :=
  map_range_congr _ _ fun c _ => by
    unfold midTo dropTo
    rw [List.drop_eq_getElem_cons hi, List.drop_zero, show sumN (ns[i] :: ns.drop (i + 1)) (fun a => cross G grp a c) = cross G grp ns[i] c + sumN (ns.drop (i + 1)) (fun a => cross G grp a c) by simp only [sumN, List.map_cons, List.sum_cons]]
    unfold cross
    omega
theorem dropL_end (G : Gr) (grp : List Nat) (D : List Bool) (ns : List Nat) (count n i : Nat) : dropL G grp D ns count n i (row G n).length = midL G grp D ns count (i + 1) :=
  map_range_congr _ _ fun c _ => by unfold midTo dropTo; rw [List.drop_length]; simp
theorem dropL_step {G : Gr} {grp : List Nat} {D : List Bool} {ns : List Nat} {count n i j b : Nat} (hb : (row G n)[j]? = some b) (hlt : gN grp b < count) :
    (gN grp b = gN grp n → dropL G grp D ns count n i (j + 1) = dropL G grp D ns count n i j) ∧
    (gN grp b ≠ gN grp n → 1 ≤ gN (dropL G grp D ns count n i j) (gN grp b) ∧ (dropL G grp D ns count n i j).set (gN grp b) (gN (dropL G grp D ns count n i j) (gN grp b) - 1) = dropL G grp D ns count n i (j + 1)) := by
  have ht : (row G n).drop j = b :: (row G n).drop (j + 1) := by
    obtain ⟨h, e⟩ := List.getElem?_eq_some_iff.1 hb
    rw [List.drop_eq_getElem_cons h, e]
  have hc : ∀ c, dropTo G grp D ns n i j c = dropTo G grp D ns n i (j + 1) c + if gN grp b = c ∧ gN grp n ≠ c then 1 else 0 := fun c => by
    unfold dropTo
    rw [ht, List.countP_cons, ← Nat.add_assoc]
    congr 1
    by_cases h1 : gN grp b = c <;> by_cases h2 : gN grp n = c <;> simp [h1, h2]
  refine ⟨fun e => map_range_congr _ _ fun c _ => ?_, fun e => ?_⟩
  · rw [hc c, if_neg (by rintro ⟨h1, h2⟩; omega)]; rfl
  · have hx : gN (dropL G grp D ns count n i j) (gN grp b) = dropTo G grp D ns n i (j + 1) (gN grp b) + 1 := by
      unfold dropL
      rw [getD_map_range _ hlt, hc, if_pos ⟨rfl, fun h => e h.symm⟩]
    refine ⟨by omega, set_map_range _ _ _ (fun c _ hne => ?_) (by rw [hx]; rfl)⟩
    rw [hc c, if_neg (by rintro ⟨h1, h2⟩; omega)]; rfl
theorem midTo_le {G : Gr} {grp : List Nat} {D : List Bool} {m c : Nat} (h : ∀ a, (row G a).length ≤ m) : rest G grp D c ≤ G.length * m := by
  unfold rest
  have h1 := sumN_le (l := (List.range G.length).filter fun a => !gB D (gN grp a)) (f := fun a => cross G grp a c) fun a => cross_le h
  have h2 : ((List.range G.length).filter fun a => !gB D (gN grp a)).length ≤ G.length := Nat.le_trans (List.length_filter_le _ _) (by simp)
  exact Nat.le_trans h1 (Nat.mul_le_mul_right _ h2)
/-- the one to be taken, among the first K groups -/
def bestI (f : Nat → Nat) (p : Nat → Bool) : Nat → Int
  | 0 => -1
  | K + 1 => if p K = true ∧ (bestI f p K < 0 ∨ f K < f (bestI f p K).toNat) then (K : Int) else bestI f p K
theorem bestI_spec (f : Nat → Nat) (p : Nat → Bool) : ∀ K, (bestI f p K = -1 ∧ ∀ i, i < K → p i = false) ∨ ∃ b : Nat, bestI f p K = (b : Int) ∧ b < K ∧ p b = true ∧ ∀ i, i < K → p i = true → f b ≤ f i
  | 0 => .inl ⟨rfl, fun i hi => absurd hi (Nat.not_lt_zero _)⟩
  | K + 1 => by
    rcases bestI_spec f p K with ⟨h1, h2⟩ | ⟨b, h1, h2, h3, h4⟩
    · cases hp : p K with
      | false => exact .inl ⟨by simp [bestI, hp, h1], fun i hi => by
          by_cases e : i = K
          · rw [e]; exact hp
          · exact h2 i (by omega)⟩
      | true => exact .inr ⟨K, by simp [bestI, hp, h1], Nat.lt_succ_self _, hp, fun i hi hpi => by
          by_cases e : i = K
          · rw [e]; exact Nat.le_refl _
          · rw [h2 i (by omega)] at hpi; cases hpi⟩
    · by_cases hk : p K = true ∧ f K < f b
      · exact .inr ⟨K, by simp [bestI, hk.1, h1, hk.2], Nat.lt_succ_self _, hk.1, fun i hi hpi => by
          by_cases e : i = K
          · rw [e]; exact Nat.le_refl _
          · have := h4 i (by omega) hpi; omega⟩
      · refine .inr ⟨b, ?_, by omega, h3, fun i hi hpi => ?_⟩
        · rw [← h1]
          refine if_neg ?_
          rw [h1]
          rintro ⟨g1, g2⟩
          rcases g2 with g2 | g2
          · omega
          · exact hk ⟨g1, by simpa using g2⟩
        · by_cases e : i = K
          · rw [e] at hpi ⊢
            refine Nat.le_of_not_lt fun h => hk ⟨hpi, h⟩
          · exact h4 i (by omega) hpi
theorem bestI_lt (f : Nat → Nat) (p : Nat → Bool) (K : Nat) : -1 ≤ bestI f p K ∧ bestI f p K < (K : Int) := by
  rcases bestI_spec f p K with ⟨h, _⟩ | ⟨b, h, hb, _⟩ <;> rw [h] <;> omega
def firstOf (G : Gr) (grp : List Nat) (c : Nat) : Nat := gN (nodesTo grp G.length c) 0
def freeOf (G : Gr) (grp : List Nat) (D : List Bool) (c : Nat) : Bool := !gB D c && rest G grp D c == 0
def DG (G : Gr) (grp : List Nat) (D : List Bool) (k : Nat) : Prop := k < G.length ∧ gB D (gN grp k) = true
theorem nodes_some {G : Gr} {grp : List Nat} {count c : Nat} (h : Nums G grp count) (hc : c < count) : 0 < (nodesTo grp G.length c).length ∧ firstOf G grp c < G.length ∧ gN grp (firstOf G grp c) = c := by
  obtain ⟨a, ha, hg⟩ := h.used c hc
  have hm : a ∈ nodesTo grp G.length c := mem_nodesTo.2 ⟨ha, hg⟩
  have hp : 0 < (nodesTo grp G.length c).length := List.length_pos_of_mem hm
  have h0 : firstOf G grp c ∈ nodesTo grp G.length c := by
    unfold firstOf gN
    rw [show (nodesTo grp G.length c).getD 0 0 = (nodesTo grp G.length c)[0] by simp [List.getD, hp]]
    exact List.getElem_mem hp
  exact ⟨hp, (mem_nodesTo.1 h0).1, (mem_nodesTo.1 h0).2⟩
theorem first_le {G : Gr} {grp : List Nat} {c a : Nat} (ha : a < G.length) (hg : gN grp a = c) : firstOf G grp c ≤ a := by
  have hm : a ∈ nodesTo grp G.length c := mem_nodesTo.2 ⟨ha, hg⟩
  obtain ⟨i, hi, e⟩ := List.getElem_of_mem hm
  have hp : 0 < (nodesTo grp G.length c).length := by omega
  have h0 : firstOf G grp c = (nodesTo grp G.length c)[0] := by simp [firstOf, gN, List.getD, hp]
  rw [h0, ← e]
  rcases Nat.eq_zero_or_pos i with rfl | h
  · exact Nat.le_refl _
  · exact Nat.le_of_lt (List.pairwise_iff_getElem.1 (nodesTo_sorted grp G.length c) 0 i hp hi h)
theorem free_dg {G : Gr} {grp : List Nat} {count n : Nat} {D : List Bool} (hG : okG G) (h : Nums G grp count) (hs : Shut G grp D) (hn : n < G.length) : Free G (DG G grp D) n ↔ freeOf G grp D (gN grp n) = true := by
  have h1 : Free G (DG G grp D) n ↔ Free G (fun k => gB D (gN grp k) = true) n := by
    unfold Free DG
    constructor
    · rintro ⟨g1, g2⟩
      exact ⟨fun e => g1 ⟨hn, e⟩, fun k hk hr => (g2 k hk hr).imp (fun e => e.2) id⟩
    · rintro ⟨g1, g2⟩
      exact ⟨fun e => g1 e.2, fun k hk hr => (g2 k hk hr).imp (fun e => ⟨hk, e⟩) id⟩
  rw [h1, h.free hG hs hn]
  unfold freeOf
  simp
/-- where t groups are out -/
def GI (G : Gr) (grp : List Nat) (count t : Nat) (D : List Bool) (out : List (List Nat)) : Prop :=
  D.length = count ∧ undone D count + t = count ∧ Shut G grp D ∧ Picked G out (DG G grp D) ∧ out.length = t
theorem GI.start (G : Gr) (grp : List Nat) (count : Nat) : GI G grp count 0 (List.replicate count false) [] := by
  refine ⟨by simp, ?_, (show Shut G grp _ from fun a b _ h => by rw [gB_replicate] at h; cases h), Picked.start G (D := DG G grp _) (fun k hk => by unfold DG at hk; rw [gB_replicate] at hk; cases hk.2), rfl⟩
  unfold undone
  rw [List.filter_eq_self.2 fun a _ => by rw [gB_replicate]; rfl]
  simp
theorem undone_pos {D : List Bool} {n : Nat} (h : 0 < undone D n) : ∃ c, c < n ∧ gB D c = false := by
  unfold undone at h
  obtain ⟨c, hc⟩ := List.exists_mem_of_length_pos h
  have := List.mem_filter.1 hc
  exact ⟨c, by simpa using this.1, by simpa using this.2⟩
theorem GI.best {G : Gr} {grp : List Nat} {count t : Nat} {D : List Bool} {out : List (List Nat)} (hG : okG G) (hN : Nums G grp count) (h : GI G grp count t D out) (ht : t < count) :
    ∃ b : Nat, bestI (firstOf G grp) (freeOf G grp D) count = (b : Int) ∧ b < count ∧ gB D b = false ∧ rest G grp D b = 0 ∧ IsNext G (DG G grp D) (firstOf G grp b) := by
  obtain ⟨c, hc, hd⟩ := undone_pos (D := D) (n := count) (by have := h.2.1; omega)
  obtain ⟨i, hi, hdi, hri⟩ := hN.some hG c hc hd
  have hpi : freeOf G grp D i = true := by unfold freeOf; rw [hdi, hri]; rfl
  rcases bestI_spec (firstOf G grp) (freeOf G grp D) count with ⟨_, h2⟩ | ⟨b, h1, h2, h3, h4⟩
  · rw [h2 i hi] at hpi; cases hpi
  · have h3' := h3
    unfold freeOf at h3'
    simp only [Bool.and_eq_true, Bool.not_eq_true', beq_iff_eq] at h3'
    obtain ⟨_, hfl, hfg⟩ := nodes_some hN h2
    refine ⟨b, h1, h2, h3'.1, h3'.2, hfl, (free_dg hG hN h.2.2.1 hfl).2 (by rw [hfg]; exact h3), fun m hm hf => ?_⟩
    have hml : m < G.length := by omega
    have h5 := (free_dg hG hN h.2.2.1 hml).1 hf
    have h6 := h4 _ (hN.lt m hml) h5
    have h7 := first_le (grp := grp) hml rfl
    omega
theorem GI.step {G : Gr} {grp : List Nat} {count t b : Nat} {D : List Bool} {out : List (List Nat)} (hG : okG G) (hN : Nums G grp count) (h : GI G grp count t D out) (hb : b < count) (hd : gB D b = false) (hr : rest G grp D b = 0) (hn : IsNext G (DG G grp D) (firstOf G grp b)) :
    GI G grp count (t + 1) (D.set b true) (out ++ [nodesTo grp G.length b]) := by
  have hbl : b < D.length := by rw [h.1]; exact hb
  have hset : ∀ x, gB (D.set b true) x = if x = b then true else gB D x := fun x => getD_set hbl
  have hun : ∀ n, b < n → undone (D.set b true) n + 1 = undone D n := by
    intro n
    induction n with
    | zero => intro h; omega
    | succ n ih =>
      intro hlt
      have e : ∀ E : List Bool, undone E (n + 1) = undone E n + if gB E n = true then 0 else 1 := fun E => by
        unfold undone
        rw [List.range_succ, List.filter_append, List.length_append]
        cases h3 : gB E n <;> simp [h3]
      rw [e, e, hset]
      by_cases hbn : n = b
      · subst hbn
        rw [if_pos rfl, hd]
        have : undone (D.set n true) n = undone D n := by
          unfold undone
          rw [List.filter_congr fun x hx => ?_]
          have : x < n := by simpa using hx
          rw [hset, if_neg (by omega)]
        rw [this]; rfl
      · rw [if_neg hbn]
        have := ih (by omega)
        omega
  obtain ⟨_, hfl, hfg⟩ := nodes_some hN hb
  refine ⟨by rw [List.length_set]; exact h.1, by have := hun count hb; have := h.2.1; omega, h.2.2.1.step hG hbl hr, h.2.2.2.1.step hn (hN.scc hfl hfg) fun k => ?_, by simp [h.2.2.2.2]⟩
  unfold DG
  rw [hset, mem_nodesTo]
  by_cases hk : k < G.length <;> by_cases he : gN grp k = b <;> simp [hk, he]
theorem GI.final {G : Gr} {grp : List Nat} {count : Nat} {D : List Bool} {out : List (List Nat)} (hG : okG G) (hN : Nums G grp count) (h : GI G grp count count D out) : Picks G (fun _ => False) out := by
  refine h.2.2.2.1.final fun n hn hf => ?_
  have h1 := (free_dg hG hN h.2.2.1 hn).1 hf
  unfold freeOf at h1
  simp only [Bool.and_eq_true, Bool.not_eq_true'] at h1
  have h2 := h.2.1
  have h3 : undone D count = 0 := by omega
  unfold undone at h3
  have h4 := List.eq_nil_of_length_eq_zero h3
  have : gN grp n ∈ (List.range count).filter fun k => !gB D k := List.mem_filter.2 ⟨by simpa using hN.lt n hn, by rw [h1.1]; rfl⟩
  rw [h4] at this
  cases this
end G22
end Go.Proofs.Ytjmenkjmghmkpaa
