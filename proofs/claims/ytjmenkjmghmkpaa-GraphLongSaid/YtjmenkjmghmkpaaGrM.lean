/- Graphs in memory: rows of nodes, and which of them may be. -/
import Derived.Test.YtjmenkjmghmkpaaPlain
import Derived.Test.YtjmenkjmghmkpaaGrT
namespace Go.Proofs.Ytjmenkjmghmkpaa
open Go.RowKit
open G22

theorem take_eq_succ {α : Type} {a b : List α} {k : Nat} (h1 : k < a.length) (h2 : k < b.length) (h : a.take k = b.take k) (he : a[k] = b[k]) : a.take (k + 1) = b.take (k + 1) := by
  rw [List.take_succ_eq_append_getElem h1, List.take_succ_eq_append_getElem h2, h, he]
theorem take_ne {α : Type} {a b : List α} {k : Nat} (h1 : k < a.length) (h2 : k < b.length) (he : a[k] ≠ b[k]) : a ≠ b := by
  rintro rfl; exact he rfl
theorem take_eq_end {α : Type} {a b : List α} (hl : a.length = b.length) (h : a.take a.length = b.take a.length) : a = b := by
  rw [List.take_length, hl, List.take_length] at h; exact h
theorem drewN_two (w : World) (a b : Nat) : (w.drewN a).drewN b = w.drewN (a + b) := by simp [World.drewN, Nat.add_assoc]
theorem quiet_add {P : Program} {f : FuncId} {args : Array Value} {w : World} {a n : Nat} {v : Value}
    (h : Calls P f args (w.drewN (a + n)) fun e w' => e = .returned v ∧ ∃ m, w' = (w.drewN (a + n)).drewN m) :
    Calls P f args (w.drewN (a + n)) fun e w'' => e = .returned v ∧ ∃ m, w'' = w.drewN (a + m) :=
  h.mono fun _ _ ⟨he, m, hm⟩ => ⟨he, n + m, by rw [hm, World.drewN_drewN, Nat.add_assoc]⟩
theorem quiet_add_left {P : Program} {f : FuncId} {args : Array Value} {w : World} {a n : Nat} {v : Value}
    (h : Calls P f args (w.drewN (a + n)) fun e w' => e = .returned v ∧ w.drewN (a + n) = w') :
    Calls P f args (w.drewN (a + n)) fun e w'' => e = .returned v ∧ ∃ m, w'' = w.drewN (a + m) :=
  h.mono fun _ _ ⟨he, hm⟩ => ⟨he, n, hm.symm⟩
theorem quiet_left {P : Program} {f : FuncId} {args : Array Value} {w : World} {n : Nat} {v : Value}
    (h : Calls P f args (w.drewN n) fun e w' => e = .returned v ∧ w.drewN n = w') : Calls P f args (w.drewN n) fun e w'' => e = .returned v ∧ ∃ m, w'' = w.drewN m :=
  h.mono fun _ _ ⟨he, hm⟩ => ⟨he, n, hm.symm⟩
def natV (x : Nat) : Value := .int .i64 (x : Int)
def RNat : Rd Nat := fun _ _ v n => v = natV n
abbrev RNats := RSl RNat
abbrev RNatss := RSl RNats
theorem RNat.stable : Stable RNat := fun _ _ _ _ _ _ h _ _ => h
theorem RNats.stable : Stable RNats := RSl.stable RNat.stable
theorem RNatss.stable : Stable RNatss := RSl.stable RNats.stable
/-- A reading along a map. -/
theorem RSl.along {α β : Type} {R : Rd α} {R' : Rd β} {f : β → α} {w : World} {S : Nat → Prop} {v : Value} {l : List β} (h : RSl R w S v (l.map f)) (hR : ∀ u x, x ∈ l → R w S u (f x) → R' w S u x) : RSl R' w S v l := by
  obtain ⟨A, c, hv, h1, h2, h3⟩ := h
  rw [List.length_map] at hv h1
  refine ⟨A, c, hv, h1, h2, fun hp => ?_⟩
  obtain ⟨b, off, e, hb, hc⟩ := h3 (by simpa using hp)
  refine ⟨b, off, e, hb, fun k hk => ?_⟩
  obtain ⟨u, hu, hr⟩ := hc k (by simpa using hk)
  rw [List.getElem_map] at hr
  exact ⟨u, hu, hR _ _ (List.getElem_mem hk) hr⟩
theorem RSl.back {α β : Type} {R : Rd α} {R' : Rd β} {f : β → α} {w : World} {S : Nat → Prop} {v : Value} {l : List β} (h : RSl R' w S v l) (hR : ∀ u x, x ∈ l → R' w S u x → R w S u (f x)) : RSl R w S v (l.map f) := by
  obtain ⟨A, c, hv, h1, h2, h3⟩ := h
  refine ⟨A, c, by rw [List.length_map]; exact hv, by rw [List.length_map]; exact h1, h2, fun hp => ?_⟩
  obtain ⟨b, off, e, hb, hc⟩ := h3 (by simpa using hp)
  refine ⟨b, off, e, hb, fun k hk => ?_⟩
  obtain ⟨u, hu, hr⟩ := hc k (by simpa using hk)
  rw [List.getElem_map]
  exact ⟨u, hu, hR _ _ (List.getElem_mem _) hr⟩
abbrev ints (l : List Nat) : List Int := l.map (fun x : Nat => (x : Int))
abbrev intss (G : Gr) : List (List Int) := G.map ints
theorem nats_of_ints {w : World} {S : Nat → Prop} {v : Value} {l : List Nat} (h : RInts w S v (ints l)) : RNats w S v l := RSl.along h fun _ _ _ hr => hr
theorem natss_of_intss {w : World} {S : Nat → Prop} {v : Value} {G : Gr} (h : RIntss w S v (intss G)) : RNatss w S v G := RSl.along h fun _ _ _ hr => nats_of_ints hr
theorem ints_of_nats {w : World} {S : Nat → Prop} {v : Value} {l : List Nat} (h : RNats w S v l) : RInts w S v (ints l) := RSl.back h fun _ _ _ hr => hr
theorem intss_of_natss {w : World} {S : Nat → Prop} {v : Value} {G : Gr} (h : RNatss w S v G) : RIntss w S v (intss G) := RSl.back h fun _ _ _ hr => ints_of_nats hr

def isNodeB (n : Nat) (x : Int) : Bool := decide (0 ≤ x) && decide (x < (n : Int))
def mayG (g : List (List Int)) : Bool := !g.any fun l => l.any fun x => !isNodeB g.length x
theorem isNodeB_nat {n : Nat} {x : Int} (h : isNodeB n x = true) : ∃ k : Nat, k < n ∧ x = (k : Int) := by
  simp [isNodeB] at h
  exact ⟨x.toNat, by omega, by omega⟩
theorem isNodeB_lt {n x : Nat} : isNodeB n (x : Int) = decide (x < n) := by
  unfold isNodeB; rw [Bool.eq_iff_iff]; simp
theorem ints_of_all {n : Nat} : ∀ {l : List Int}, (∀ x ∈ l, isNodeB n x = true) → ∃ m : List Nat, l = ints m ∧ ∀ x ∈ m, x < n
  | [], _ => ⟨[], rfl, fun _ h => by cases h⟩
  | x :: l, h => by
    obtain ⟨k, hk, e⟩ := isNodeB_nat (h x (by simp))
    obtain ⟨m, hm, hl⟩ := ints_of_all (l := l) fun y hy => h y (by simp [hy])
    refine ⟨k :: m, by rw [e, hm]; rfl, fun y hy => ?_⟩
    rcases List.mem_cons.1 hy with rfl | hy
    · exact hk
    · exact hl y hy
theorem intss_of_all {n : Nat} : ∀ {g : List (List Int)}, (∀ l ∈ g, ∀ x ∈ l, isNodeB n x = true) → ∃ G : Gr, g = intss G ∧ ∀ l ∈ G, ∀ x ∈ l, x < n
  | [], _ => ⟨[], rfl, fun _ h => by cases h⟩
  | l :: g, h => by
    obtain ⟨m, hm, hl⟩ := ints_of_all (h l (by simp))
    obtain ⟨G, hG, hg⟩ := intss_of_all (g := g) fun y hy => h y (by simp [hy])
    refine ⟨m :: G, by rw [hm, hG]; rfl, fun y hy => ?_⟩
    rcases List.mem_cons.1 hy with rfl | hy
    · exact hl
    · exact hg y hy
/-- A graph that may be is one of nodes. -/
theorem mayG_nat {g : List (List Int)} (h : mayG g = true) : ∃ G : Gr, g = intss G ∧ okG G := by
  have h' : ∀ l ∈ g, ∀ x ∈ l, isNodeB g.length x = true := by
    intro l hl x hx
    cases hb : isNodeB g.length x with
    | true => rfl
    | false =>
      have : (g.any fun l => l.any fun x => !isNodeB g.length x) = true := List.any_eq_true.2 ⟨l, hl, List.any_eq_true.2 ⟨x, hx, by rw [hb]; rfl⟩⟩
      simp [mayG, this] at h
  obtain ⟨G, hG, hg⟩ := intss_of_all h'
  refine ⟨G, hG, fun a x hx => ?_⟩
  have hl : g.length = G.length := by rw [hG]; simp
  unfold row at hx
  rcases Nat.lt_or_ge a G.length with h1 | h1
  · rw [show G.getD a [] = G[a] by simp [List.getD, h1]] at hx
    rw [← hl]; exact hg _ (List.getElem_mem h1) x hx
  · simp [List.getD, List.getElem?_eq_none h1] at hx
theorem mayG_of {G : Gr} (h : okG G) : mayG (intss G) = true := by
  unfold mayG
  have : ((intss G).any fun l => l.any fun x => !isNodeB (intss G).length x) = false := by
    rw [List.any_eq_false]
    intro l hl
    obtain ⟨m, hm, rfl⟩ := List.mem_map.1 hl
    rw [Bool.not_eq_true, List.any_eq_false]
    intro x hx
    obtain ⟨y, hy, rfl⟩ := List.mem_map.1 hx
    obtain ⟨a, ha, rfl⟩ := List.getElem_of_mem hm
    have := h a y (by unfold row; rw [show G.getD a [] = G[a] by simp [List.getD, ha]]; exact hy)
    rw [List.length_map, isNodeB_lt]
    simpa using this
  rw [this]; rfl
def lightG {α : Type} (g : List (List α)) : Bool := decide (g.length ≤ 30) && !g.any fun l => decide (40 < l.length)
theorem row_at {G : Gr} {a : Nat} (h : a < G.length) : row G a = G[a] := by simp [row, List.getD, h]
end Go.Proofs.Ytjmenkjmghmkpaa
