/- Rows of properties in memory. Plain. -/
import Derived.Test.YtpgdioopkcfjdaaPrW4
namespace Go.Proofs.Ytpgdioopkcfjdaa
open Go.RowKit

def pcells (p : Bs × Bs) : List Value := [sv p.1, sv p.2]
def pcellsL (L : PL) : List Value := L.flatMap pcells
abbrev VProp : RdV (Bs × Bs) := VCells pcells
abbrev RProps : Rd PL := RArr 2 VProp
theorem RProps.stable : Stable RProps := RArr.stable (VCells.stable _)
def POwn (w : World) (base : Nat) (v : Value) (L : PL) : Prop := w.ownsRow base 42 2 v L.length (pcellsL L)
theorem pcellsL_nil : pcellsL [] = [] := rfl
theorem pcellsL_cons (p : Bs × Bs) (L : PL) : pcellsL (p :: L) = sv p.1 :: sv p.2 :: pcellsL L := rfl
theorem pcellsL_snoc (L : PL) (p : Bs × Bs) : pcellsL (L ++ [p]) = pcellsL L ++ [sv p.1, sv p.2] := by simp [pcellsL, pcells]
theorem pcellsL_length (L : PL) : (pcellsL L).length = L.length * 2 := by
  induction L with
  | nil => rfl
  | cons p L ih => rw [pcellsL_cons]; simp [ih]; omega
theorem pcellsL_at : ∀ {L : PL} {k : Nat} (hk : k < L.length), (pcellsL L)[k * 2]? = some (sv L[k].1) ∧ (pcellsL L)[k * 2 + 1]? = some (sv L[k].2)
  | p :: L, 0, _ => ⟨rfl, rfl⟩
  | p :: L, k + 1, hk => by
    have := pcellsL_at (L := L) (k := k) (by simpa using hk)
    rw [pcellsL_cons, show (k + 1) * 2 = k * 2 + 1 + 1 by omega]
    simpa using this
theorem pcellsL_one {L : PL} : ∀ u ∈ pcellsL L, u.oneCell' = true := by
  intro u hu
  simp only [pcellsL, List.mem_flatMap] at hu
  obtain ⟨p, _, h⟩ := hu
  simp [pcells] at h
  rcases h with rfl | rfl <;> rfl
theorem prop_cells {w : World} {S : Nat → Prop} {A : Option Addr} {L : PL} (h : RAtV 2 VProp w S A L) {k : Nat} (hk : k < L.length) :
    ∃ b off, A = some ⟨b, off, none⟩ ∧ S b ∧ w.cell? ⟨b, off + k * 2, none⟩ = some (sv L[k].1) ∧ w.cell? ⟨b, off + k * 2 + 1, none⟩ = some (sv L[k].2) := by
  obtain ⟨b, off, e, hb, hc⟩ := h (by omega)
  have := hc k hk
  exact ⟨b, off, e, hb, this 0 _ rfl, this 1 _ rfl⟩
theorem prop_again {w : World} {S : Nat → Prop} {b off : Nat} {L : PL} (h : RAtV 2 VProp w S (some ⟨b, off, none⟩) L) {k : Nat} (hk : k < L.length) :
    w.cell? ⟨b, off + k * 2, none⟩ = some (sv L[k].1) ∧ w.cell? ⟨b, off + k * 2 + 1, none⟩ = some (sv L[k].2) := by
  obtain ⟨b', off', e, _, h5⟩ := prop_cells h hk
  simp only [Option.some.injEq, Addr.mk.injEq, and_true] at e
  obtain ⟨rfl, rfl⟩ := e
  exact h5
theorem props_of_own {w : World} {S : Nat → Prop} {base : Nat} {v : Value} {L : PL} (h : POwn w base v L) (hS : ∀ g, v.ownBlock = some g → S g) : RProps w S v L := by
  have h' := h
  rcases h.2 with ⟨rfl, h0⟩ | ⟨g, cap, cur, rfl, hg, hh, hnc, hm, hs, ht⟩
  · refine ⟨none, 0, by rw [h0], by omega, Nat.zero_le _, fun hp => by omega⟩
  · refine ⟨some ⟨g, 0, none⟩, cap, rfl, hnc, hm, fun hp => ⟨g, 0, rfl, hS g rfl, fun k hk j u hu => ?_⟩⟩
    have hp := pcellsL_at hk
    match j with
    | 0 =>
      simp [pcells] at hu; subst hu
      have hc := World.ownsRow.cells h' (g := g) rfl (k * 2) _ hp.1
      rw [add_none] at hc
      exact hc
    | 1 =>
      simp [pcells] at hu; subst hu
      have hc := World.ownsRow.cells h' (g := g) rfl (k * 2 + 1) _ hp.2
      rw [add_none] at hc
      simpa [Nat.add_assoc] using hc
    | j + 2 => simp [pcells] at hu
/-- append of m elements that lie at an address. -/
theorem wpList_appendP {w : World} {ops : Array Oper} {rest : List Oper} {o : Oper} {a : Act} {Q : Exit → Act → World → Prop} (hgd : o.guard = none) (s x : Operand)
    (ho : o.op = .call { callee := .builtin .append, args := #[s, x], argTypes := #[22, 22] }) {base : Nat}
    {v : Value} {L : PL} (hs : a.eval s = v) (hown : POwn w base v L) (ad : Addr) (c : Nat) (M : PL) (hx : a.eval x = .slice (some ad) M.length c)
    (hc : ∀ j u, (pcellsL M)[j]? = some u → w.cell? (ad.add j) = some u) (hn : L.length + M.length ≤ 1000000000000) (hbase : base ≤ w.heap.size)
    (h : ∀ v' w', POwn w' base v' (L ++ M) → w.grownBy w' v.ownBlock → (v'.ownBlock = v.ownBlock ∨ v'.ownBlock = some w.heap.size) → wpList Try.prog ops Q rest (a.put o.dst v') w') :
    wpList Try.prog ops Q (o :: rest) a w := by
  obtain ⟨i, hi, hz, hsz, hby⟩ := info_parts (show (Try.prog.info? 42).map (fun i => (i.zero, i.size, i.bytes)) = some (some (.agg #[.string ⟨#[]⟩, .string ⟨#[]⟩]), 2, 32) by kernel_rfl)
  refine wpList_append_own_at w hgd s x 22 ho base 42 i _ 2 32 Try.underlying22 hi hz hsz hby (by simp [Value.cells]) (by omega) v L.length (pcellsL L) hs hown ad M.length c (pcellsL M) hx (pcellsL_length M) hc pcellsL_one ?_ ?_ hbase fun v' w' h2 h3 _ h5 => h v' w' ?_ h3 h5
  · unfold maxLen; omega
  · omega
  · unfold POwn; simpa [pcellsL] using h2
theorem wpList_pushP {w : World} {ops : Array Oper} {rest : List Oper} {o : Oper} {a : Act} {Q : Exit → Act → World → Prop} (hgd : o.guard = none) (s x : Operand)
    (ho : o.op = .call { callee := .builtin .append, args := #[s, x], argTypes := #[22, 22] }) {base : Nat}
    {v : Value} {L : PL} (hs : a.eval s = v) (hown : POwn w base v L) (g : Nat) (p : Bs × Bs) (hx : a.eval x = .slice (some ⟨g, 0, none⟩) 1 1)
    (h0 : w.cell? ⟨g, 0, none⟩ = some (sv p.1)) (h1 : w.cell? ⟨g, 1, none⟩ = some (sv p.2)) (hn : L.length < 1000000000000) (hbase : base ≤ w.heap.size)
    (h : ∀ v' w', POwn w' base v' (L ++ [p]) → w.grownBy w' v.ownBlock → (v'.ownBlock = v.ownBlock ∨ v'.ownBlock = some w.heap.size) → wpList Try.prog ops Q rest (a.put o.dst v') w') :
    wpList Try.prog ops Q (o :: rest) a w :=
  wpList_appendP hgd s x ho hs hown ⟨g, 0, none⟩ 1 [p] hx (fun j u hu => by
    match j with
    | 0 => simp [pcellsL, pcells] at hu; subst hu; exact h0
    | 1 => simp [pcellsL, pcells] at hu; subst hu; exact h1
    | j + 2 => simp [pcellsL, pcells] at hu) (by simp; omega) hbase h
/-- where a name stands first -/
def idxP (L : PL) (n : Bs) : Int := match L.findIdx? (fun p => p.1 == n) with | some i => i | none => -1
theorem bz_beq (a b : Bs) : ((bz a).toList == (bz b).toList) = (a == b) := by rw [bz_toList, bz_toList]
theorem lookP_idx (L : PL) (n : Bs) : (∃ i, ∃ h : i < L.length, idxP L n = i ∧ lookP L n = some L[i].2 ∧ L[i].1 = n) ∨ (idxP L n = -1 ∧ lookP L n = none) := by
  unfold idxP lookP
  cases hf : L.findIdx? (fun p => p.1 == n) with
  | none =>
    refine .inr ⟨rfl, ?_⟩
    rw [List.find?_eq_none.2]
    · rfl
    · intro x hx; rw [List.findIdx?_eq_none_iff.1 hf x hx]; exact Bool.false_ne_true
  | some i =>
    obtain ⟨hi, hp, hlt⟩ := List.findIdx?_eq_some_iff_getElem.1 hf
    refine .inl ⟨i, hi, rfl, ?_, by simpa using hp⟩
    have : L.find? (fun p => p.1 == n) = some L[i] := by
      rw [List.find?_eq_some_iff_getElem]
      exact ⟨hp, i, hi, rfl, fun j hj => by simpa using hlt j hj⟩
    rw [this]; rfl
theorem any_take_succ' {α : Type} (p : α → Bool) (l : List α) (k : Nat) (h : k < l.length) : (l.take (k + 1)).any p = ((l.take k).any p || p l[k]) := by
  rw [List.take_succ_eq_append_getElem h, List.any_append]; simp
theorem findIdx_hit {α : Type} {p : α → Bool} {l : List α} {k : Nat} (h : k < l.length) (hn : (l.take k).any p = false) (hp : p l[k] = true) : l.findIdx? p = some k := by
  rw [List.findIdx?_eq_some_iff_getElem]
  refine ⟨h, hp, fun j hj => ?_⟩
  rw [List.any_eq_false] at hn
  have := hn l[j] (by
    rw [List.mem_take_iff_getElem]
    exact ⟨j, by omega, rfl⟩)
  simpa using this
theorem findIdx_miss {α : Type} {p : α → Bool} {l : List α} (hn : (l.take l.length).any p = false) : l.findIdx? p = none := by
  rw [List.take_length, List.any_eq_false] at hn
  rw [List.findIdx?_eq_none_iff]
  intro x hx
  simpa using hn x hx
end Go.Proofs.Ytpgdioopkcfjdaa
