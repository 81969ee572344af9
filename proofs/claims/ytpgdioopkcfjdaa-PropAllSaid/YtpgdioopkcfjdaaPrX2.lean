/- work.text, given what work.value does. -/
import Derived.Test.YtpgdioopkcfjdaaPrX1
import Derived.Test.YtpgdioopkcfjdaaPrD4
namespace Go.Proofs.Ytpgdioopkcfjdaa
open Go.RowKit

def ChgV (T Dn Wk : Nat) (wv : Value) : Nat → Prop := fun k => k = T ∨ k = Dn ∨ k = Wk ∨ some k = wv.ownBlock
def Out (B T R Dn : Nat) (lv : Value) (L U : PL) (Wk : Nat) (wv : Value) (way : List Bs) (w : World) (r : Ans × PL) (e : Ending) (w' : World) : Prop :=
  Ch (ChgV T Dn Wk wv) w w' ∧ TabAt w' B T R Dn lv L U r.2 ∧
  match r.1 with
  | .ok v => e = .returned (sv v) ∧ v.length ≤ 4096 ∧ ∃ wv', WkAt w' B Wk T wv' way ∧ NewOr w wv wv'
  | .loop n => e = .panicked (flt 22 n)
  | .big n => e = .panicked (flt 2 n)
def ValOK (m : Int) (B T R Dn : Nat) (lv : Value) (L U : PL) (d : Nat) : Prop := ∀ (way : List Bs) (done : PL) (n : Bs) (w : World) (Wk : Nat) (wv : Value), MaxAt m w → way.length + d = 32 → (lookP L n).isSome = true → WayOK way done →
  TabAt w B T R Dn lv L U done → WkAt w B Wk T wv way → n.length ≤ 1000000 →
  Calls Try.prog 37 #[.pointer (some ⟨Wk, 0, none⟩), sv n] w (Out B T R Dn lv L U Wk wv way w (valP L d way done n))
theorem Ch.belowR {D : Nat → Prop} {w0 w w' : World} (h : Ch D w0 w) (hB : Below w0.heap.size w w') : Ch D w0 w' :=
  ⟨hB.os.trans h.os, hB.tape.trans h.tape, hB.output.trans h.output, Nat.le_trans h.size hB.size, fun k hk hd => (hB.block k hk).trans (h.block k hk hd)⟩
theorem Ch.valueR {T Dn Wk : Nat} {wv0 wv : Value} {w0 w w' : World} (h : Ch (ChgV T Dn Wk wv0) w0 w) (hc : Ch (ChgV T Dn Wk wv) w w') (hn : NewOr w0 wv0 wv) : Ch (ChgV T Dn Wk wv0) w0 w' := by
  refine ⟨hc.os.trans h.os, hc.tape.trans h.tape, hc.output.trans h.output, Nat.le_trans h.size hc.size, fun k hk hd => ?_⟩
  rw [hc.block k (Nat.lt_of_lt_of_le hk h.size) ?_]
  · exact h.block k hk hd
  · rintro (e | e | e | e)
    · exact hd (.inl e)
    · exact hd (.inr (.inl e))
    · exact hd (.inr (.inr (.inl e)))
    · rcases hn k e.symm with x | x
      · exact hd (.inr (.inr (.inr x.symm)))
      · omega
theorem chgv_ne {w : World} {B T R Dn : Nat} {lv : Value} {L U done : PL} {Wk : Nat} {wv : Value} {way : List Bs} (ht : TabAt w B T R Dn lv L U done) (hw : WkAt w B Wk T wv way) {k : Nat} {c : Array Value} {fz : Nat × Nat} (hk : w.heap[k]? = some (.cells c 5 fz) ∨ w.heap[k]? = some (.cells c 82 fz)) : ¬ ChgV T Dn Wk wv k := by
  rintro (e | e | e | e)
  · subst e; have h := ht.hT; rcases hk with hk | hk <;> (rw [hk] at h; simp at h)
  · subst e; obtain ⟨es, c', h⟩ := ht.dn.obj; rcases hk with hk | hk <;> (rw [hk] at h; simp at h)
  · subst e; have h := hw.hW; rcases hk with hk | hk <;> (rw [hk] at h; simp at h)
  · obtain ⟨c', h⟩ := own_obj hw.own e.symm; rcases hk with hk | hk <;> (rw [hk] at h; simp at h)
theorem chgv_ne9 {w : World} {B T R Dn : Nat} {lv : Value} {L U done : PL} {Wk : Nat} {wv : Value} {way : List Bs} (ht : TabAt w B T R Dn lv L U done) (hw : WkAt w B Wk T wv way) {q : Nat} {c : Array Value} {fz : Nat × Nat} (hk : w.heap[q]? = some (.cells c 9 fz)) (hq : wv.ownBlock ≠ some q) : ¬ ChgV T Dn Wk wv q := by
  rintro (e | e | e | e)
  · subst e; have h := ht.hT; rw [hk] at h; simp at h
  · subst e; obtain ⟨es, c', h⟩ := ht.dn.obj; rw [hk] at h; simp at h
  · subst e; have h := hw.hW; rw [hk] at h; simp at h
  · exact hq e.symm
theorem chgv_lo {w : World} {B T R Dn : Nat} {lv : Value} {L U done : PL} {Wk : Nat} {wv wv0 : Value} {way : List Bs} (ht : TabAt w B T R Dn lv L U done) (hw : WkAt w B Wk T wv way) (h0 : ∀ g, wv0.ownBlock = some g → B ≤ g) : ∀ k, ChgV T Dn Wk wv0 k → B ≤ k := by
  rintro k (e | e | e | e)
  · subst e; exact ht.lo.1
  · subst e; exact ht.lo.2.2
  · subst e; exact hw.lo
  · exact h0 k e.symm
/-- what stands between the rounds: the builder's block b, the name's box q -/
structure TxtAt (w0 w : World) (B T R Dn : Nat) (lv : Value) (L U : PL) (Wk : Nat) (wv0 wv : Value) (way : List Bs) (me : Bs) (b q : Nat) (done : PL) (acc : Bs) : Prop where
  ch : Ch (ChgV T Dn Wk wv0) w0 w
  tab : TabAt w B T R Dn lv L U done
  wk : WkAt w B Wk T wv way
  nw : NewOr w0 wv0 wv
  bld : BldF w0.heap.size b (Lib.byteCells acc) w
  box : w.heap[q]? = some (.cells #[sv me] 9 (0, 0))
  nq : wv.ownBlock ≠ some q
  acc : acc.length ≤ 4096
  q0 : w0.heap.size ≤ q
  lo0 : ∀ g, wv0.ownBlock = some g → B ≤ g
  wok : WayOK way done
section
variable {w0 w w' : World} {B T R Dn : Nat} {lv : Value} {L U : PL} {Wk : Nat} {wv0 wv : Value} {way : List Bs} {me : Bs} {b q : Nat} {done done' : PL} {acc acc' : Bs}
theorem TxtAt.size (h : TxtAt w0 w B T R Dn lv L U Wk wv0 wv way me b q done acc) : w0.heap.size ≤ w.heap.size := h.ch.size
/-- the builder has been written -/
theorem TxtAt.put (h : TxtAt w0 w B T R Dn lv L U Wk wv0 wv way me b q done acc) (hb : BldF w0.heap.size b (Lib.byteCells acc') w') (hB : Below w0.heap.size w w') (ho : Others (some b) w w') (hl : acc'.length ≤ 4096) :
    TxtAt w0 w' B T R Dn lv L U Wk wv0 wv way me b q done acc' := by
  obtain ⟨cb, hcb⟩ := h.bld.obj
  exact ⟨h.ch.belowR hB, h.tab.others ho hcb, h.wk.others ho hcb, h.nw, hb, (Others.kp ho hcb h.box (by decide) (by decide)).at_ h.box, h.nq, hl, h.q0, h.lo0, h.wok⟩
/-- a value has been asked -/
theorem TxtAt.value {wv' : Value} (h : TxtAt w0 w B T R Dn lv L U Wk wv0 wv way me b q done acc) (hc : Ch (ChgV T Dn Wk wv) w w') (ht : TabAt w' B T R Dn lv L U done') (hw : WkAt w' B Wk T wv' way) (hn : NewOr w wv wv') (hk : WayOK way done') :
    TxtAt w0 w' B T R Dn lv L U Wk wv0 wv' way me b q done' acc := by
  have hq := (Array.getElem?_eq_some_iff.1 h.box).1
  refine ⟨h.ch.valueR hc h.nw, ht, hw, ?_, h.bld.kp fun k c fz hb => hc.kp (chgv_ne h.tab h.wk hb), (hc.kp (chgv_ne9 h.tab h.wk h.box h.nq)).at_ h.box, ?_, h.acc, h.q0, h.lo0, hk⟩
  · intro g hg
    rcases hn g hg with e | e
    · exact h.nw g e
    · exact .inr (Nat.le_trans h.size e)
  · intro e
    rcases hn q e with e | e
    · exact h.nq e
    · omega
end
end Go.Proofs.Ytpgdioopkcfjdaa
