/- What is met from the root by truths: plain law. -/
import Derived.Test.YtlaihjhkghbfkaaCnfW6
namespace Go.Proofs.Ytlaihjhkghbfkaa
open Go.RowKit

def tT (t : List Bool) (k : Nat) : Bool := t.getD k false
/-- Items that are met from r on by truths t. -/
inductive Rch (wss : List (List (List Int))) (t : List Bool) (r : Nat) : Nat → Prop
  | root : tT t r = true → Rch wss t r r
  | step {k n : Nat} {w : List Int} (hk : Rch wss t r k) (h : k < wss.length) (hw : w ∈ wss[k]) (hn : (n : Int) ∈ w) (ht : tT t n = true) : Rch wss t r n
def mB (met : List Bool) (x : Nat) : Bool := met.getD x false
/-- From met to met': more is met, all that is new is met from r, and what is new has met all that it wants. -/
structure Stp (wss : List (List (List Int))) (t : List Bool) (r : Nat) (a b : List Bool) : Prop where
  len : b.length = a.length
  more : ∀ x, mB a x = true → mB b x = true
  new : ∀ x, mB b x = true → mB a x = false → Rch wss t r x
  shut : ∀ x, mB b x = true → mB a x = false → ∀ (h : x < wss.length), ∀ w ∈ wss[x], ∀ n : Nat, (n : Int) ∈ w → tT t n = true → n < a.length → mB b n = true
theorem Stp.refl (wss : List (List (List Int))) (t : List Bool) (r : Nat) (a : List Bool) : Stp wss t r a a :=
  ⟨rfl, fun _ h => h, fun x h h' => by simp [h] at h', fun x h h' => by simp [h] at h'⟩
theorem Stp.trans {wss : List (List (List Int))} {t : List Bool} {r : Nat} {a b c : List Bool} (h : Stp wss t r a b) (k : Stp wss t r b c) : Stp wss t r a c := by
  refine ⟨k.len.trans h.len, fun x hx => k.more x (h.more x hx), fun x hx ha => ?_, fun x hx ha hlt w hw n hn ht hl => ?_⟩
  · cases hb : mB b x with
    | true => exact h.new x hb ha
    | false => exact k.new x hx hb
  · cases hb : mB b x with
    | true => exact k.more n (h.shut x hb ha hlt w hw n hn ht hl)
    | false => exact k.shut x hx hb hlt w hw n hn ht (by rw [h.len]; exact hl)
theorem mB_set {a : List Bool} {n x : Nat} (hn : n < a.length) : mB (a.set n true) x = (decide (x = n) || mB a x) := by
  unfold mB List.getD
  rw [List.getElem?_set]
  by_cases h : n = x
  · subst h; simp [hn]
  · simp [h, show ¬ x = n from fun e => h e.symm]
def unmet (a : List Bool) : Nat := a.count false
theorem unmet_le_of_more : ∀ {a b : List Bool}, b.length = a.length → (∀ x, mB a x = true → mB b x = true) → unmet b ≤ unmet a
  | [], b, hl, _ => by have : b = [] := List.eq_nil_of_length_eq_zero hl; subst this; exact Nat.le_refl _
  | x :: a, [], hl, _ => by simp at hl
  | x :: a, y :: b, hl, h => by
    have ih := unmet_le_of_more (a := a) (b := b) (by simpa using hl) (fun i hi => by simpa [mB] using h (i + 1) (by simpa [mB] using hi))
    have h0 := h 0
    simp only [mB, List.getD_cons_zero] at h0
    unfold unmet at *
    rw [List.count_cons, List.count_cons]
    cases x <;> cases y <;> simp_all <;> omega
theorem unmet_set {a : List Bool} {n : Nat} (hn : n < a.length) (hf : mB a n = false) : unmet (a.set n true) < unmet a := by
  induction a generalizing n with
  | nil => simp at hn
  | cons x a ih =>
    cases n with
    | zero =>
      simp [mB] at hf
      subst hf
      simp [unmet]
    | succ n =>
      have := ih (n := n) (by simpa using hn) (by simpa [mB] using hf)
      unfold unmet at *
      simp only [List.set_cons_succ, List.count_cons]
      omega
/-- The step of one node: it is met, and then all that it wants. -/
theorem Stp.node {wss : List (List (List Int))} {t : List Bool} {r n : Nat} {a b : List Bool} (hn : n < a.length) (hr : Rch wss t r n) (h : Stp wss t r (a.set n true) b)
    (hd : ∀ (hlt : n < wss.length), ∀ w ∈ wss[n], ∀ k : Nat, (k : Int) ∈ w → tT t k = true → k < a.length → mB b k = true) : Stp wss t r a b := by
  refine ⟨by simpa using h.len, fun x hx => h.more x (by rw [mB_set hn, hx]; simp), fun x hx ha => ?_, fun x hx ha hlt w hw k hk ht hl => ?_⟩
  · by_cases hxn : x = n
    · subst hxn; exact hr
    · exact h.new x hx (by rw [mB_set hn, ha]; simp [hxn])
  · by_cases hxn : x = n
    · subst hxn; exact hd hlt w hw k hk ht hl
    · exact h.shut x hx (by rw [mB_set hn, ha]; simp [hxn]) hlt w hw k hk ht (by simpa using hl)
/-- What is met in the end. -/
def IsMet (n0 : Nat) (wss : List (List (List Int))) (t : List Bool) (r : Nat) (met : List Bool) : Prop := met.length = n0 ∧ ∀ x, x < n0 → (mB met x = true ↔ Rch wss t r x)
theorem IsMet.unique {n0 : Nat} {wss : List (List (List Int))} {t : List Bool} {r : Nat} {a b : List Bool} (h : IsMet n0 wss t r a) (k : IsMet n0 wss t r b) : a = b := by
  apply List.ext_getElem (h.1.trans k.1.symm)
  intro i hi hj
  have h1 := h.2 i (h.1 ▸ hi)
  have h2 := k.2 i (h.1 ▸ hi)
  have e : mB a i = mB b i := by rw [Bool.eq_iff_iff, h1, h2]
  simpa [mB, List.getD, hi, hj] using e
def validW (n0 : Nat) (wss : List (List (List Int))) : Prop := ∀ k (h : k < wss.length), ∀ w ∈ wss[k], ∀ x ∈ w, 0 ≤ x ∧ x < n0
theorem validW_of {n0 : Nat} {wss : List (List (List Int))} (h : badRR n0 wss = false) : validW n0 wss := by
  intro k hk w hw x hx
  have h1 := List.any_eq_false.1 h _ (List.getElem_mem hk)
  have h1' : badR n0 wss[k] = false := by simpa using h1
  have h2 := List.any_eq_false.1 h1' _ hw
  have h2' : badW n0 w = false := by simpa using h2
  have h3 := List.any_eq_false.1 h2' _ hx
  have h3' : isItemB n0 x = true := by simpa using h3
  exact isItemB_iff.1 h3'
theorem Rch.lt {n0 : Nat} {wss : List (List (List Int))} {t : List Bool} {r x : Nat} (hv : validW n0 wss) (hr : r < n0) (h : Rch wss t r x) : x < n0 := by
  induction h with
  | root _ => exact hr
  | step _ hk hw hn _ _ => have := hv _ hk _ hw _ hn; omega
theorem Rch.true_ {wss : List (List (List Int))} {t : List Bool} {r x : Nat} (h : Rch wss t r x) : tT t x = true := by cases h <;> assumption
theorem isMet_of_stp {n0 : Nat} {wss : List (List (List Int))} {t : List Bool} {r : Nat} {b : List Bool} (hv : validW n0 wss) (_hr : r < n0) (h : Stp wss t r (List.replicate n0 false) b) (hroot : tT t r = true → mB b r = true) : IsMet n0 wss t r b := by
  have h0 : ∀ x, mB (List.replicate n0 false) x = false := by
    intro x; unfold mB List.getD; rw [List.getElem?_replicate]; split <;> rfl
  have key : ∀ y, Rch wss t r y → mB b y = true := by
    intro y hy
    induction hy with
    | root ht => exact hroot ht
    | step hk hlt hw hn ht ih =>
      have := hv _ hlt _ hw _ hn
      exact h.shut _ ih (h0 _) hlt _ hw _ hn ht (by simp; omega)
  exact ⟨by simpa using h.len, fun x hx => ⟨fun hb => h.new x hb (h0 x), key x⟩⟩
def truesFrom : List Bool → Nat → List Int
  | [], _ => []
  | b :: l, i => if b then (i : Int) :: truesFrom l (i + 1) else truesFrom l (i + 1)
def trues (l : List Bool) : List Int := truesFrom l 0
theorem truesFrom_append (a : List Bool) (b : Bool) (i : Nat) : truesFrom (a ++ [b]) i = truesFrom a i ++ (if b then [((i + a.length : Nat) : Int)] else []) := by
  induction a generalizing i with
  | nil => cases b <;> simp [truesFrom]
  | cons x a ih =>
    simp only [List.cons_append, truesFrom, ih]
    cases x <;> simp [Nat.add_assoc, Nat.add_comm 1]
theorem trues_succ {l : List Bool} {k : Nat} (h : k < l.length) : trues (l.take (k + 1)) = trues (l.take k) ++ (if l[k] then [(k : Int)] else []) := by
  unfold trues
  rw [List.take_succ_eq_append_getElem h, truesFrom_append]
  simp [Nat.min_eq_left (Nat.le_of_lt h)]
theorem trues_length_le (l : List Bool) : (trues l).length ≤ l.length := by
  suffices ∀ i, (truesFrom l i).length ≤ l.length from this 0
  induction l with
  | nil => intro i; simp [truesFrom]
  | cons b l ih => intro i; have := ih (i + 1); cases b <;> simp [truesFrom] <;> omega
theorem mem_trues {l : List Bool} {x : Int} : x ∈ trues l ↔ 0 ≤ x ∧ mB l x.toNat = true := by
  suffices h : ∀ i : Nat, x ∈ truesFrom l i ↔ (i : Int) ≤ x ∧ mB l (x.toNat - i) = true by simpa [trues] using h 0
  induction l with
  | nil => intro i; simp [truesFrom, mB]
  | cons b l ih =>
    intro i
    have hi := ih (i + 1)
    by_cases hx : x = i
    · subst hx
      have hn : ¬ ((i : Int) ∈ truesFrom l (i + 1)) := by rw [hi]; omega
      cases b <;> simp [truesFrom, mB, hn]
    · have e : ∀ (h : (i : Int) < x), mB (b :: l) (x.toNat - i) = mB l (x.toNat - (i + 1)) := by
        intro h
        rw [show x.toNat - i = (x.toNat - (i + 1)) + 1 by omega]
        simp [mB]
      have : x ∈ truesFrom (b :: l) i ↔ x ∈ truesFrom l (i + 1) := by cases b <;> simp [truesFrom, hx]
      rw [this, hi]
      constructor
      · rintro ⟨h1, h2⟩; exact ⟨by omega, by rw [e (by omega)]; exact h2⟩
      · rintro ⟨h1, h2⟩; exact ⟨by omega, by rw [← e (by omega)]; exact h2⟩
end Go.Proofs.Ytlaihjhkghbfkaa
