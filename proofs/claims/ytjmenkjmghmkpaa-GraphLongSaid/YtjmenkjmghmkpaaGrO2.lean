/- Graphs: the nodes of a round about; an order of all nodes. Plain. -/
import Derived.Test.YtjmenkjmghmkpaaGrO
import Derived.Test.YtjmenkjmghmkpaaBase
namespace Go.Proofs.Ytjmenkjmghmkpaa
namespace G22

theorem backL_spec {G : Gr} {a : Nat} {d : List Int} (h : IsDepth G a d) : ∀ (k b : Nat), b < G.length → dd d b = (k : Int) → ∀ j (hj : j < (backL G d k b).length), (backL G d k b)[j] < G.length ∧ dd d (backL G d k b)[j] = ((k - j : Nat) : Int) ∧ ∀ h1 : j + 1 < (backL G d k b).length, Edge G (backL G d k b)[j + 1] (backL G d k b)[j]
  | 0, b, hb, hk, j, hj => by
    have hj0 : j = 0 := by rw [backL_length] at hj; omega
    subst hj0
    exact ⟨hb, hk, fun h1 => by rw [backL_length] at h1; omega⟩
  | k + 1, b, hb, hk, j, hj => by
    obtain ⟨_, g2, g3, g4⟩ := prev_some h hb hk
    have ih := backL_spec h k (prevN G d b) g4 g2
    cases j with
    | zero =>
      refine ⟨hb, hk, fun h1 => ?_⟩
      have : (backL G d (k + 1) b)[1] = prevN G d b := by
        cases k with
        | zero => rfl
        | succ k => rfl
      rw [this]
      exact g3
    | succ j =>
      have hj' : j < (backL G d k (prevN G d b)).length := by rw [backL_length] at hj ⊢; omega
      obtain ⟨i1, i2, i3⟩ := ih j hj'
      refine ⟨i1, ?_, fun h1 => i3 (by rw [backL_length] at h1 ⊢; omega)⟩
      show dd d (backL G d k (prevN G d b))[j] = _
      rw [i2]; congr 1; omega
theorem pathL_spec {G : Gr} {a b k : Nat} {d : List Int} (h : IsDepth G a d) (ha : a < G.length) (hb : b < G.length) (hk : dd d b = (k : Int)) :
    (pathL G d b).length = k + 1 ∧ (pathL G d b).getD 0 0 = a ∧ (pathL G d b).getD k 0 = b ∧ ∀ i, i ≤ k → (pathL G d b).getD i 0 < G.length ∧ dd d ((pathL G d b).getD i 0) = (i : Int) ∧ (i < k → Edge G ((pathL G d b).getD i 0) ((pathL G d b).getD (i + 1) 0)) := by
  have hl : (pathL G d b).length = k + 1 := by rw [pathL_length, hk]; simp
  have hbl := backL_length G d k b
  have e : ∀ i, i ≤ k → ∃ hj : k - i < (backL G d k b).length, (pathL G d b).getD i 0 = (backL G d k b)[k - i] := fun i hi => by
    refine ⟨by omega, ?_⟩
    unfold pathL
    rw [hk, Int.toNat_natCast]
    have hi' : i < (backL G d k b).reverse.length := by rw [List.length_reverse]; omega
    rw [show (backL G d k b).reverse.getD i 0 = (backL G d k b).reverse[i] by unfold List.getD; rw [List.getElem?_eq_getElem hi']; rfl, List.getElem_reverse]
    congr 1; omega
  have sp := backL_spec h k b hb hk
  have main : ∀ i, i ≤ k → (pathL G d b).getD i 0 < G.length ∧ dd d ((pathL G d b).getD i 0) = (i : Int) ∧ (i < k → Edge G ((pathL G d b).getD i 0) ((pathL G d b).getD (i + 1) 0)) := fun i hi => by
    obtain ⟨hj, e1⟩ := e i hi
    obtain ⟨s1, s2, _⟩ := sp (k - i) hj
    rw [e1]
    refine ⟨s1, by rw [s2]; congr 1; omega, fun hlt => ?_⟩
    obtain ⟨hj2, e2⟩ := e (i + 1) (by omega)
    obtain ⟨_, _, s3⟩ := sp (k - (i + 1)) hj2
    rw [e2]
    have := s3 (by omega)
    have e3 : k - (i + 1) + 1 = k - i := by omega
    simpa [e3] using this
  refine ⟨hl, ?_, ?_, main⟩
  · obtain ⟨m1, m2, _⟩ := main 0 (Nat.zero_le _)
    have := h.pos m1 (by show 0 ≤ dd d _; omega)
    have e0 : (d.getD ((pathL G d b).getD 0 0) (-1)).toNat = 0 := by
      have : d.getD ((pathL G d b).getD 0 0) (-1) = 0 := m2
      rw [this]; rfl
    rw [e0] at this
    exact (Eq.symm this.1)
  · obtain ⟨hj, e1⟩ := e k (Nat.le_refl _)
    rw [e1]
    have : k - k = 0 := by omega
    simp only [this]
    cases k with
    | zero => rfl
    | succ k => rfl
theorem cyc_cases (G : Gr) (hG : okG G) : (cycG G = [] ∧ ∀ m, ¬ Round G m) ∨ ∃ n k, n < G.length ∧ (cycG G).length = k + 1 ∧ (cycG G).getD 0 0 = n ∧ (∀ i, i ≤ k → (cycG G).getD i 0 < G.length ∧ ∃ d : List Int, IsDepth G n d ∧ dd d ((cycG G).getD i 0) = (i : Int)) ∧ (∀ i, i < k → Edge G ((cycG G).getD i 0) ((cycG G).getD (i + 1) 0)) ∧ Edge G ((cycG G).getD k 0) n ∧ ∀ m, m < n → ¬ Round G m := by
  by_cases h : ∃ n, Round G n
  · obtain ⟨n0, h0⟩ := h
    have hn0 : n0 < G.length := by obtain ⟨k, he, _⟩ := h0; exact hG _ _ he
    have : ∃ m, m < G.length ∧ 0 ≤ bestOf G m ∧ ∀ j, j < m → bestOf G j < 0 := by
      have key : ∀ c, c < G.length → 0 ≤ bestOf G c → ∃ m, m < G.length ∧ 0 ≤ bestOf G m ∧ ∀ j, j < m → bestOf G j < 0 := by
        intro c
        induction c using Nat.strongRecOn with
        | _ c ih =>
          intro hc hb
          by_cases hx : ∃ j, j < c ∧ 0 ≤ bestOf G j
          · obtain ⟨j, h1, h2⟩ := hx; exact ih j h1 (by omega) h2
          · exact ⟨c, hc, hb, fun j hj => by
              rcases Int.lt_or_le (bestOf G j) 0 with h1 | h1
              · exact h1
              · exact absurd ⟨j, hj, h1⟩ hx⟩
      exact key n0 hn0 ((bestOf_round G n0).2 h0)
    obtain ⟨n, hn, hb0, hf⟩ := this
    obtain ⟨d, hd⟩ := depth_exists G n
    have hde := depthOf_eq hd
    have hsp := bestTo_spec (G := G) (d := depthOf G n) (n := n) (K := G.length) hb0
    have hlt : (bestOf G n).toNat < G.length := by
      have := (bestTo_ge G (depthOf G n) n G.length).2
      unfold bestOf at hb0 ⊢
      omega
    have hdb : 0 ≤ dd d (bestOf G n).toNat := by rw [hde]; exact hsp.2.1
    obtain ⟨k, hk⟩ : ∃ k : Nat, dd d (bestOf G n).toNat = (k : Int) := ⟨(dd d (bestOf G n).toNat).toNat, by omega⟩
    have hc : cycG G = pathL G d (bestOf G n).toNat := by
      rw [cycG_hit hn hb0 hf, ← hde]
      unfold pathR
      rw [if_pos hdb]
    obtain ⟨p1, p2, p3, p4⟩ := pathL_spec hd hn hlt hk
    rw [← hc] at p1 p2 p3 p4
    refine .inr ⟨n, k, hn, p1, p2, fun i hi => ⟨(p4 i hi).1, d, hd, (p4 i hi).2.1⟩, fun i hi => (p4 i (by omega)).2.2 hi, by rw [p3]; exact hsp.1, fun m hm hr => ?_⟩
    have := (bestOf_round G m).2 hr
    have := hf m hm
    omega
  · have hn : ∀ n, ¬ Round G n := fun n hr => h ⟨n, hr⟩
    exact .inl ⟨(cycG_nil hG).2 hn, hn⟩
/-- what is asked of the nodes of a round about -/
theorem cyc_spec {G : Gr} (hG : okG G) : (∀ i, i < (cycG G).length → (cycG G).getD i 0 < G.length ∧ leads G ((cycG G).getD i 0) ((cycG G).getD ((i + 1) % (cycG G).length) 0) = true ∧ ∀ j, j < i → (cycG G).getD j 0 ≠ (cycG G).getD i 0) ∧
    ∀ m, m < (if 0 < (cycG G).length then (cycG G).getD 0 0 else G.length) → ¬ Round G m := by
  rcases cyc_cases G hG with ⟨h1, h2⟩ | ⟨n, k, hn, hl, h0, h1, h2, h3, h4⟩
  · rw [h1]
    exact ⟨fun i hi => by simp at hi, fun m _ => h2 m⟩
  · refine ⟨fun i hi => ?_, ?_⟩
    · have hik : i ≤ k := by omega
      refine ⟨(h1 i hik).1, ?_, fun j hj e => ?_⟩
      · rw [leads_iff, hl]
        rcases Nat.lt_or_ge i k with h | h
        · rw [Nat.mod_eq_of_lt (by omega)]; exact h2 i h
        · obtain rfl : i = k := by omega
          rw [Nat.mod_self, h0]; exact h3
      · obtain ⟨_, d, hd, e1⟩ := h1 i hik
        obtain ⟨_, d', hd', e2⟩ := h1 j (by omega)
        rw [hd'.unique hd, e] at e2
        omega
    · rw [if_pos (by omega), h0]
      exact h4

/-! ### An order -/
def FreeP (G : Gr) (E : Nat → Prop) (k : Nat) : Prop := ¬ E k ∧ ∀ a, Edge G a k → E a
theorem closed_reach {G : Gr} {E : Nat → Prop} (hc : ∀ a b, Edge G a b → E b → E a) {a b : Nat} (h : Reach G a b) (hb : E b) : E a := by
  obtain ⟨k, hk⟩ := h
  induction k generalizing b with
  | zero => obtain rfl : a = b := hk; exact hb
  | succ k ih =>
    obtain ⟨c, hw, he⟩ := hk
    exact ih (hc _ _ he hb) hw
theorem freeP_iff {G : Gr} {E : Nat → Prop} (hc : ∀ a b, Edge G a b → E b → E a) (hr : ∀ n, ¬ Round G n) (k : Nat) : FreeP G E k ↔ Free G E k := by
  constructor
  · rintro ⟨h1, h2⟩
    refine ⟨h1, fun j _ ⟨m, hm⟩ => ?_⟩
    cases m with
    | zero => obtain rfl : j = k := hm; exact .inr (.refl _ _)
    | succ m =>
      obtain ⟨c, hw, he⟩ := hm
      exact .inl (closed_reach hc ⟨m, hw⟩ (h2 c he))
  · rintro ⟨h1, h2⟩
    refine ⟨h1, fun a he => ?_⟩
    rcases h2 a he.lt he.reach with h | h
    · exact h
    · exact absurd ⟨a, he, h⟩ (hr k)
theorem order_spec {G : Gr} (hr : ∀ n, ¬ Round G n) : ∀ {ls : List (List Nat)} {D : Nat → Prop}, Picks G D ls → (∀ l ∈ ls, okB G l = true) → (∀ a b, Edge G a b → D b → D a) →
    ∀ i, i < (ls.map hd).length → (ls.map hd).getD i 0 < G.length ∧ ∀ k, k ≤ (ls.map hd).getD i 0 → (FreeP G (fun x => D x ∨ x ∈ (ls.map hd).take i) k ↔ k = (ls.map hd).getD i 0)
  | [], _, _, _, _, i, hi => by simp at hi
  | l :: ls, D, ⟨n, hn, hl, hp⟩, hok, hc, i, hi => by
    have hln : l = [n] := by
      have h1 := hok l (by simp)
      unfold okB at h1
      simp only [Bool.and_eq_true, decide_eq_true_eq] at h1
      have hm := hl.self hn.1
      match l, hm, h1.1 with
      | [x], hm, _ => simp at hm; rw [hm]
    subst hln
    have hfn : FreeP G D n := (freeP_iff hc hr n).2 hn.2.1
    cases i with
    | zero =>
      refine ⟨hn.1, fun k hk => ?_⟩
      have hk' : k ≤ n := hk
      have e : (fun x => D x ∨ x ∈ List.take 0 (List.map hd ([n] :: ls))) = D := funext fun x => propext (by simp)
      rw [e, freeP_iff hc hr]
      constructor
      · intro hf
        show k = n
        rcases Nat.lt_or_ge k n with h | h
        · exact absurd hf (hn.2.2 k h)
        · omega
      · intro h
        have h : k = n := h
        rw [h]; exact hn.2.1
    | succ i =>
      have hc' : ∀ a b, Edge G a b → (D b ∨ b ∈ [n]) → (D a ∨ a ∈ [n]) := fun a b he h => by
        rcases h with h | h
        · exact .inl (hc a b he h)
        · simp at h; subst h; exact .inl (hfn.2 a he)
      obtain ⟨g1, g2⟩ := order_spec hr hp (fun l hl => hok l (by simp [hl])) hc' i (by simpa using hi)
      refine ⟨g1, fun k hk => ?_⟩
      have := g2 k hk
      rw [show (fun x => (D x ∨ x ∈ [n]) ∨ x ∈ List.take i (List.map hd ls)) = (fun x => D x ∨ x ∈ List.take (i + 1) (List.map hd ([n] :: ls))) from funext fun x => propext (by simp [hd, gN, or_assoc])] at this
      exact this
theorem order_length {G : Gr} {ls : List (List Nat)} (h : Picks G (fun _ => False) ls) (hok : ∀ l ∈ ls, okB G l = true) : ls.length = G.length := by
  refine Nat.le_antisymm h.length_le ?_
  obtain ⟨l, hl, hp⟩ := choose_list (n := G.length) (p := fun c x => x < ls.length ∧ hd (ls.getD x []) = c) fun c hc => by
    rcases h.cover c hc with h1 | ⟨m, hm, hcm⟩
    · exact absurd h1 id
    · obtain ⟨x, hx, rfl⟩ := List.getElem_of_mem hm
      refine ⟨x, hx, ?_⟩
      rw [show ls.getD x [] = ls[x] by simp [List.getD, hx]]
      have h1 := hok ls[x] hm
      unfold okB at h1
      simp only [Bool.and_eq_true, decide_eq_true_eq] at h1
      generalize ls[x] = q at *
      match q, hcm, h1.1 with
      | [y], hcm, _ => simp at hcm; rw [hcm]; rfl
  have hm : l.map (fun x => hd (ls.getD x [])) = List.range G.length := by
    refine List.ext_getElem (by simp [hl]) fun i h1 h2 => ?_
    rw [List.getElem_map, List.getElem_range]
    exact (hp i (by simpa using h1)).2
  have hd' : l.Nodup := List.Pairwise.of_map (S := (· ≠ ·)) (fun x => hd (ls.getD x [])) (fun a b hab e => hab (by rw [e])) (by rw [hm]; exact List.nodup_range)
  have := nodup_le hd' fun x hx => by
    obtain ⟨i, hi, rfl⟩ := List.getElem_of_mem hx
    exact (hp i hi).1
  omega
/-- is a node free, as far as the first K nodes tell? -/
def freeK (G : Gr) (done : List Bool) (k K : Nat) : Bool := !gB done k && (List.range K).all fun a => gB done a || !leads G a k
theorem freeK_zero (G : Gr) (done : List Bool) (k : Nat) : freeK G done k 0 = !gB done k := by simp [freeK]
theorem freeK_succ (G : Gr) (done : List Bool) (k K : Nat) : freeK G done k (K + 1) = (freeK G done k K && (gB done K || !leads G K k)) := by
  unfold freeK
  rw [List.range_succ, List.all_append]
  simp [Bool.and_assoc]
theorem freeK_iff {G : Gr} {done : List Bool} {k : Nat} : freeK G done k G.length = true ↔ FreeP G (fun x => gB done x = true) k := by
  unfold freeK FreeP
  simp only [Bool.and_eq_true, Bool.not_eq_true', List.all_eq_true, List.mem_range, Bool.or_eq_true]
  constructor
  · rintro ⟨h1, h2⟩
    refine ⟨by rw [h1]; simp, fun a he => ?_⟩
    rcases h2 a he.lt with h | h
    · exact h
    · rw [leads_iff.2 he] at h; cases h
  · rintro ⟨h1, h2⟩
    refine ⟨by simpa using h1, fun a _ => ?_⟩
    cases hx : leads G a k with
    | false => exact .inr rfl
    | true => exact .inl (h2 a (leads_iff.1 hx))
end G22
end Go.Proofs.Ytjmenkjmghmkpaa
