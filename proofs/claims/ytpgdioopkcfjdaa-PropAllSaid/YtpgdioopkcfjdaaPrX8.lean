/- Expand: of a table; of none. -/
import Derived.Test.YtpgdioopkcfjdaaPrX7
namespace Go.Proofs.Ytpgdioopkcfjdaa
open Go.RowKit

def ChT (T Dn : Nat) : Nat → Prop := fun k => k = T ∨ k = Dn
/-- the number and the name of what goes wrong -/
def badOf : Ans → Option (Int × Bs)
  | .ok _ => none
  | .loop n => some (22, n)
  | .big n => some (2, n)
def okOf : Ans → Bs
  | .ok v => v
  | _ => []
abbrev expP (L done : PL) (s : Bs) : Ans × PL := txtP (fun done m => valP L 32 [] done m) L [] done [] s
theorem callFunc_exp : ∀ (args : Array Value) (w : World), (callFunc 30 args).run Try.prog w = .ok (.enter 30 args) w := callFunc_run Try.func30 (by kernel_rfl) (by kernel_rfl)
/-- the boxes of a call of Expand: the table's, the text's, the answer's -/
def ExB (w : World) (n T : Nat) (s x : Bs) : Prop := w.heap[n]? = some (.cells #[.pointer (some ⟨T, 0, none⟩)] 25 (0, 0)) ∧ w.heap[n + 1]? = some (.cells #[sv s] 9 (0, 0)) ∧ w.heap[n + 2]? = some (.cells #[sv x] 9 (0, 0))
theorem ExB.cells {w : World} {n T : Nat} {s x : Bs} (h : ExB w n T s x) : w.cell? ⟨n, 0, none⟩ = some (.pointer (some ⟨T, 0, none⟩)) ∧ w.cell? ⟨n + 1, 0, none⟩ = some (sv s) ∧ w.cell? ⟨n + 2, 0, none⟩ = some (sv x) ∧ w.frozen? ⟨n + 2, 0, none⟩ = false ∧ w.frozen? ⟨n, 0, none⟩ = false :=
  ⟨cell_of_row _ _ _ _ _ (0, 0) h.1, cell_of_row _ _ _ _ _ (0, 0) h.2.1, cell_of_row _ _ _ _ _ (0, 0) h.2.2, frozen_of_row _ _ _ _ _ h.2.2, frozen_of_row _ _ _ _ _ h.1⟩
theorem ExB.kp {w w' : World} {n T : Nat} {s x : Bs} (h : ExB w n T s x) (k0 : Kp w w' n) (k1 : Kp w w' (n + 1)) (k2 : Kp w w' (n + 2)) : ExB w' n T s x := ⟨k0 _ h.1, k1 _ h.2.1, k2 _ h.2.2⟩
theorem wk_start (w : World) (T B : Nat) (hB : B ≤ w.heap.size) : WkAt (w.alloc (.cells #[.pointer (some ⟨T, 0, none⟩), .slice none 0 0] 71)) B w.heap.size T (.slice none 0 0) [] :=
  ⟨heap_alloc_new w _, ⟨rfl, .inl ⟨rfl, rfl⟩⟩, hB⟩
/-- what text does for a work of its own -/
theorem out_new {B T R Dn : Nat} {lv : Value} {L U : PL} {w w' : World} {r : Ans × PL} {e : Ending} {o : Obj} (h : Out B T R Dn lv L U w.heap.size (.slice none 0 0) [] (w.alloc o) r e w') :
    Ch (ChT T Dn) w w' ∧ TabAt w' B T R Dn lv L U r.2 ∧ match badOf r.1 with | none => e = .returned (sv (okOf r.1)) ∧ (okOf r.1).length ≤ 4096 | some cn => e = .panicked (flt cn.1 cn.2) := by
  obtain ⟨h1, h2, h3⟩ := h
  refine ⟨?_, h2, ?_⟩
  · refine ⟨h1.os, h1.tape, h1.output, by have := h1.size; simp at this; omega, fun k hk hd => ?_⟩
    rw [h1.block k (by simp; omega) ?_, Below.heap_alloc w o k hk]
    rintro (e | e | e | e)
    · exact hd (.inl e)
    · exact hd (.inr e)
    · omega
    · cases e
  · cases hx : r.1 with
    | ok v => rw [hx] at h3; exact ⟨h3.1, h3.2.1⟩
    | loop n => rw [hx] at h3; exact h3
    | big n => rw [hx] at h3; exact h3
theorem out_ok {B T R Dn : Nat} {lv : Value} {L U : PL} {w w' : World} {v : Bs} {dn : PL} {e : Ending} {o : Obj} (h : Out B T R Dn lv L U w.heap.size (.slice none 0 0) [] (w.alloc o) (.ok v, dn) e w') : e = .returned (sv v) ∧ v.length ≤ 4096 ∧ Ch (ChT T Dn) w w' ∧ TabAt w' B T R Dn lv L U dn := by
  obtain ⟨h1, h2, h3⟩ := out_new h
  exact ⟨h3.1, h3.2, h1, h2⟩
theorem out_bad {B T R Dn : Nat} {lv : Value} {L U : PL} {w w' : World} {r : Ans × PL} {e : Ending} {o : Obj} {c : Int} {n : Bs} (h : Out B T R Dn lv L U w.heap.size (.slice none 0 0) [] (w.alloc o) r e w') (hb : badOf r.1 = some (c, n)) : e = .panicked (flt c n) ∧ Ch (ChT T Dn) w w' ∧ TabAt w' B T R Dn lv L U r.2 := by
  obtain ⟨h1, h2, h3⟩ := out_new h
  rw [hb] at h3
  exact ⟨h3, h1, h2⟩
/-- what stays of a world in which the table has been worked with -/
theorem tab_keeps {w w' : World} {B T R Dn : Nat} {lv : Value} {L U done : PL} (ht : TabAt w B T R Dn lv L U done) (hc : Ch (ChT T Dn) w w') {k : Nat} {c : Array Value} {t : TypeId} {fz : Nat × Nat} (hk : w.heap[k]? = some (.cells c t fz)) (h1 : t ≠ 66) : Kp w w' k := by
  refine hc.kp ?_
  rintro (e | e)
  · subst e; have := ht.hT; rw [hk] at this; simp at this; exact h1 this.2.1
  · subst e; obtain ⟨es, c', h⟩ := ht.dn.obj; rw [hk] at h; cases h
theorem TabAt.kp_set {w : World} {B T R Dn : Nat} {lv : Value} {L U done : PL} (ht : TabAt w B T R Dn lv L U done) {k o : Nat} {v : Value} {c : Array Value} {t : TypeId} {fz : Nat × Nat} (hk : w.heap[k]? = some (.cells c t fz)) (h1 : t ≠ 66) (h2 : t ≠ 42) : TabAt (w.setCell ⟨k, o, none⟩ v) B T R Dn lv L U done := by
  have key : ∀ {j : Nat} {ob : Obj}, w.heap[j]? = some ob → (∀ c fz, ob ≠ .cells c t fz) → Kp w (w.setCell ⟨k, o, none⟩ v) j := by
    intro j ob hj hne
    refine (ch_set w k o v).kp ?_
    rintro rfl
    rw [hk] at hj; cases hj; exact hne _ _ rfl
  obtain ⟨es, c, hR⟩ := ht.raw.obj
  obtain ⟨es', c', hDn⟩ := ht.dn.obj
  refine ht.kp (key ht.hT (by rintro c fz e; cases e; exact h1 rfl)) (key hR (by intro c fz e; cases e)) (key hDn (by intro c fz e; cases e)) fun g hg => ?_
  obtain ⟨c, h3⟩ := own_obj ht.own hg
  exact key h3 (by rintro c fz e; cases e; exact h2 rfl)
set_option maxHeartbeats 2000000 in
theorem exp1_ok {m : Int} {B T R Dn : Nat} {lv : Value} {L U done : PL} (hB : 0 < B) (hL : ∀ p ∈ L, p.2.length ≤ 1000000) (s x v : Bs) (dn : PL) (w : World) (n a b : Nat) (hm : MaxAt m w) (ht : TabAt w B T R Dn lv L U done) (hs : s.length ≤ 1000000) (hx : ExB w n T s x) (he : EN w a b 0 []) (hn : a ≠ n + 2 ∧ b ≠ n + 2)
    (hr : expP L done s = (.ok v, dn)) :
    Calls Try.prog 30 #[.pointer (some ⟨n, 0, none⟩), .pointer (some ⟨n + 1, 0, none⟩), .pointer (some ⟨n + 2, 0, none⟩)] w fun e w' => e = .returned (.tuple #[]) ∧ EN w' a b 0 [] ∧ (TabAt w' B T R Dn lv L U dn ∧ ExB w' n T s v ∧ Ch (fun k => ChT T Dn k ∨ k = n + 2) w w') := by
  obtain ⟨x0, x1, x2, -, -⟩ := hx.cells
  have hsz : B ≤ w.heap.size := by have := ht.lo.1; have := (Array.getElem?_eq_some_iff.1 ht.hT).1; omega
  have H1 := Lib.hid (text_any hB (valOK hB hL 32) [] done s [] (w.alloc (.cells #[.pointer (some ⟨T, 0, none⟩), .slice none 0 0] 71)) w.heap.size (.slice none 0 0) (hm.below (below_alloc _ _) (Nat.lt_of_lt_of_le hB hsz)) (by simp) (ht.new (below_alloc _ _)) (wk_start w T B hsz) (fun _ h => by cases h) hs)
  unfold expP at hr
  rw [hr] at H1
  have hlt0 := (Array.getElem?_eq_some_iff.1 hx.1).1
  have hlt1 := (Array.getElem?_eq_some_iff.1 hx.2.1).1
  have hlt2 := (Array.getElem?_eq_some_iff.1 hx.2.2).1
  have HT := Lib.hid ht
  have HX := Lib.hid hx
  have HE := Lib.hid he
  have Hn := Lib.hid hn
  have He : (⟨#[]⟩ : ByteArray) = bz [] := rfl
  clear hm ht hx he hr hn
  go_enter Try.func30, Try.ntmps30
  go_wp2_with (go_at_call 31; with_reducible refine H1.out.mono ?_
               intro e w1 ho
               obtain ⟨rfl, -, h1, h2⟩ := out_ok ho
               have hx1 := HX.out.kp (tab_keeps HT.out h1 HX.out.1 (by decide)) (tab_keeps HT.out h1 HX.out.2.1 (by decide)) (tab_keeps HT.out h1 HX.out.2.2 (by decide))
               have he1 := HE.out.kp (tab_keeps HT.out h1 HE.out.1 (by decide)) (tab_keeps HT.out h1 HE.out.2 (by decide))
               obtain ⟨-, -, y2, g2, -⟩ := hx1.cells
               (have HT1 := Lib.hid h2; have HC1 := Lib.hid h1; have HX1 := Lib.hid hx1; have HE1 := Lib.hid he1; clear h1 h2 hx1 he1 ho))
  go_end0
  have hl1 := HX1.out
  refine ⟨rfl, HE1.out.kp ((ch_set w1 (n + 2) 0 (sv v)).kp Hn.out.1) ((ch_set w1 (n + 2) 0 (sv v)).kp Hn.out.2), ?_, ?_, ?_⟩
  · refine HT1.out.kp_set HX1.out.2.2 (by decide) (by decide)
  · exact ⟨((ch_set w1 (n + 2) 0 (sv v)).kp (k := n) (by omega)).at_ hl1.1, ((ch_set w1 (n + 2) 0 (sv v)).kp (k := n + 1) (by omega)).at_ hl1.2.1, by rw [heap_setCell_same w1 (n + 2) 0 _ _ _ hl1.2.2]; rfl⟩
  · exact (HC1.out.imp fun _ _ e => .inl e).trans ((ch_set w1 (n + 2) 0 (sv v)).imp fun _ _ e => .inr e)
set_option maxHeartbeats 2000000 in
theorem exp1_bad {m : Int} {B T R Dn : Nat} {lv : Value} {L U done : PL} (hB : 0 < B) (hL : ∀ p ∈ L, p.2.length ≤ 1000000) (s x : Bs) (c : Int) (nm : Bs) (w : World) (n a b : Nat) (hm : MaxAt m w) (ht : TabAt w B T R Dn lv L U done) (hs : s.length ≤ 1000000) (hx : ExB w n T s x) (he : EN w a b 0 [])
    (hr : badOf (expP L done s).1 = some (c, nm)) :
    Calls Try.prog 30 #[.pointer (some ⟨n, 0, none⟩), .pointer (some ⟨n + 1, 0, none⟩), .pointer (some ⟨n + 2, 0, none⟩)] w fun e w' => e = .panicked (flt c nm) ∧ EN w' a b 0 [] ∧ (TabAt w' B T R Dn lv L U (expP L done s).2 ∧ ExB w' n T s x ∧ Ch (fun k => ChT T Dn k ∨ k = n + 2) w w') := by
  obtain ⟨x0, x1, x2, -, -⟩ := hx.cells
  have hsz : B ≤ w.heap.size := by have := ht.lo.1; have := (Array.getElem?_eq_some_iff.1 ht.hT).1; omega
  have H1 := Lib.hid (text_any hB (valOK hB hL 32) [] done s [] (w.alloc (.cells #[.pointer (some ⟨T, 0, none⟩), .slice none 0 0] 71)) w.heap.size (.slice none 0 0) (hm.below (below_alloc _ _) (Nat.lt_of_lt_of_le hB hsz)) (by simp) (ht.new (below_alloc _ _)) (wk_start w T B hsz) (fun _ h => by cases h) hs)
  have HR := Lib.hid hr
  have hlt0 := (Array.getElem?_eq_some_iff.1 hx.1).1
  have hlt1 := (Array.getElem?_eq_some_iff.1 hx.2.1).1
  have hlt2 := (Array.getElem?_eq_some_iff.1 hx.2.2).1
  have HT := Lib.hid ht
  have HX := Lib.hid hx
  have HE := Lib.hid he
  have He : (⟨#[]⟩ : ByteArray) = bz [] := rfl
  clear hm ht hx he hr
  go_enter Try.func30, Try.ntmps30
  go_wp2_with (go_at_call 31; with_reducible refine H1.out.mono ?_
               intro e w1 ho
               obtain ⟨rfl, h1, h2⟩ := out_bad ho HR.out
               have hx1 := HX.out.kp (tab_keeps HT.out h1 HX.out.1 (by decide)) (tab_keeps HT.out h1 HX.out.2.1 (by decide)) (tab_keeps HT.out h1 HX.out.2.2 (by decide))
               have he1 := HE.out.kp (tab_keeps HT.out h1 HE.out.1 (by decide)) (tab_keeps HT.out h1 HE.out.2 (by decide))
               (have HT1 := Lib.hid h2; have HC1 := Lib.hid h1; have HX1 := Lib.hid hx1; have HE1 := Lib.hid he1; clear h1 h2 hx1 he1 ho))
  exact ⟨rfl, rfl, HE1.out, HT1.out, HX1.out, HC1.out.imp fun _ _ e => .inl e⟩
end Go.Proofs.Ytpgdioopkcfjdaa
