/- For units: append in place; a row of watches while it is gone through. / meet: a variable was met in a conflict. -/
import Derived.Deep.DeepCutAuto
import Derived.Test.YtcebafeaikipmaaZb
import Derived.Test.YtcebafeaikipmaaZc
namespace Go.Proofs.Ytcebafeaikipmaa.S15
open Go.RowKit

theorem wpList_roomG {P : Program} {ops : Array Oper} {rest : List Oper} {o : Oper} {w : World} {a : Act} {Q : Exit → Act → World → Prop} (hgd : o.guard = none) (s x : Operand) (t : TypeId)
    (ho : o.op = .call { callee := .builtin .append, args := #[s, x], argTypes := #[t, t] }) {e : TypeId} {bytes : Nat} (he : Elem1 P t e bytes)
    {b k n : Nat} (hs : a.eval s = .slice (some ⟨b, 0, none⟩) k n) (hkn : k < n) {cur : Array Value} (hh : w.heap[b]? = some (.cells cur e (0, 0))) (hcur : n ≤ cur.size) (g : Nat) (u : Value) (hx : a.eval x = .slice (some ⟨g, 0, none⟩) 1 1)
    (hc : w.cell? ⟨g, 0, none⟩ = some u) (h1 : u.oneCell' = true)
    (h : wpList P ops Q rest (a.put o.dst (.slice (some ⟨b, 0, none⟩) (k + 1) n)) (w.setCell ⟨b, k, none⟩ u)) : wpList P ops Q (o :: rest) a w := by
  refine wpList_plain hgd fun K hK => ?_
  obtain ⟨ht, h64, i, z, hi, hz, hsz, hby, hzs⟩ := he
  have hcs : ∀ (j : Nat) (u' : Value), [u][j]? = some u' → w.cell? ((⟨g, 0, none⟩ : Addr).add j) = some u' := by
    intro j u' hu
    match j with
    | 0 => simp at hu; subst hu; exact hc
    | j + 1 => simp at hu
  have h1s : ∀ u' ∈ [u], u'.oneCell' = true := by intro u' hu; simp at hu; subst hu; exact h1
  have hr2 := run_append_room_cells (P := P) (w := w) t o.type e i ht hi b 0 k n ⟨g, 0, none⟩ 1 1 [u] (by rw [hsz]; rfl) hcs h1s (by omega)
    (by
      intro j hj
      have : j = 0 := by simpa using hj
      subst this
      rw [hsz, cell_of_row _ _ _ _ _ _ hh]
      simp; omega)
    (by intro j hj; exact frozen_of_row _ _ _ _ _ hh)
  rw [hsz] at hr2
  simp only [World.setCells, Nat.mul_one, Nat.zero_add] at hr2
  unfold Oper.wp execOp
  simp only [ho, resolve, invoke, builtin, Sem.run_bind, Sem.run_pure, Result.andThen_ok, List.map_toArray, List.map_cons, List.map_nil, hs, hx, hr2]
  exact hK _ _ h
theorem innerS_gone {x c : Nat} {r : List Nat} {s : St} {kept : List Nat} {bad : Option Nat} (hg : (s.cl c).gone = true) : innerS x (c :: r) s kept bad = innerS x r s kept bad := by
  conv => lhs; unfold innerS
  rw [if_pos hg]
theorem innerS_bad {x c : Nat} {r : List Nat} {s : St} {kept : List Nat} {b : Nat} (hg : (s.cl c).gone = false) : innerS x (c :: r) s kept (some b) = innerS x r s (kept ++ [c]) (some b) := by rw [innerS, if_neg (by simp [hg])]
theorem innerS_look {x c : Nat} {r : List Nat} {s : St} {kept : List Nat} (hg : (s.cl c).gone = false) :
    innerS x (c :: r) s kept none = innerS x r (lookS s c x).1 (if (lookS s c x).2.1 then kept else kept ++ [c]) (if (lookS s c x).2.2 then none else some c) := by rw [innerS, if_neg (by simp [hg])]
section
variable {w : World} {B S : Nat} {ad : List Nat} {vl : Rl → Value} {U : Nat → Prop} {D : List Nat → Prop}
/-- a row of watches, one of its places set -/
theorem SAt.setWat {q : St} {x : Nat} {F : List Nat} (h : SAt w B S ad vl (eff q x F)) (hx : x < q.watch.length) {g n cap : Nat} (hv : vl (.wr x) = .slice (some ⟨g, 0, none⟩) n cap) (k c : Nat) :
    SAt (w.setCell ⟨g, k, none⟩ (pC ad c)) B S ad vl (eff q x (F.set k c)) := by
  refine h.setRow (.wr x) hv k _ _ (fun r hr => ?_) ?_ rfl rfl (fun _ _ => rfl)
  · cases r with
    | wr i =>
      have hne : x ≠ i := fun e => hr (by rw [e])
      simp [cont, eff, hne]
    | wt => simp [cont, eff]
    | _ => rfl
  · simp [cont, eff, hx, List.map_set]
/-- where round i of the inner loop stands: F is the row as it lies in memory -/
structure InR (U : Nat → Prop) (D : List Nat → Prop) (t : St) (x : Nat) (old : List Nat) (i : Nat) (q : St) (F kept : List Nat) (bad : Option Nat) : Prop where
  mid : Mid U D (eff q x (kept ++ old.drop i)) x (old.drop i) bad
  ext : Ext t q
  eq : innerS x old t [] none = innerS x (old.drop i) q kept bad
  len : F.length = old.length
  tk : F.take kept.length = kept
  dr : F.drop i = old.drop i
  le : kept.length ≤ i
theorem InR.at_ {t q : St} {x i : Nat} {old F kept : List Nat} {bad : Option Nat} (h : InR U D t x old i q F kept bad) (hi : i < old.length) : F[i]? = some (old[i]) := by
  have := h.dr
  rw [List.drop_eq_getElem_cons hi, List.drop_eq_getElem_cons (by rw [h.len]; exact hi)] at this
  injection this with h1 h2
  rw [List.getElem?_eq_getElem (by rw [h.len]; exact hi), h1]
theorem InR.xw {t q : St} {x i : Nat} {old F kept : List Nat} {bad : Option Nat} (h : InR U D t x old i q F kept bad) : x < q.watch.length := by
  have h1 := h.mid.shp.wt; have h2 := h.mid.ox.2; unfold eff at h1 h2; simp at h1 h2; omega
theorem InR.cLt {t q : St} {x i : Nat} {old F kept : List Nat} {bad : Option Nat} (h : InR U D t x old i q F kept bad) (hi : i < old.length) : old[i] < q.cls.length :=
  (h.mid.wa.of x old[i] (by rw [wa_eff h.xw, if_pos rfl, List.drop_eq_getElem_cons hi]; exact List.mem_append_right _ (List.mem_cons_self ..))).1
theorem InR.gone {t q : St} {x i : Nat} {old F kept : List Nat} {bad : Option Nat} (h : InR U D t x old i q F kept bad) (hi : i < old.length) (hg : (q.cl old[i]).gone = true) : InR U D t x old (i + 1) q F kept bad := by
  have hm := h.mid
  have he := h.eq
  have hd := h.dr
  rw [List.drop_eq_getElem_cons hi] at hm he
  rw [List.drop_eq_getElem_cons hi, List.drop_eq_getElem_cons (by rw [h.len]; exact hi)] at hd
  injection hd with _ hd
  exact ⟨hm.step_gone hg, h.ext, he.trans (innerS_gone hg), h.len, h.tk, hd, Nat.le_succ_of_le h.le⟩
theorem set_take_drop {F kept : List Nat} {c : Nat} (hk : kept.length < F.length) (ht : F.take kept.length = kept) : (F.set kept.length c).take (kept ++ [c]).length = kept ++ [c] := by
  rw [List.length_append, List.length_singleton, List.take_succ_eq_append_getElem (by simpa using hk), List.take_set_of_le (Nat.le_refl _), ht]
  simp
theorem InR.bad {t q : St} {x i : Nat} {old F kept : List Nat} {b : Nat} (h : InR U D t x old i q F kept (some b)) (hi : i < old.length) (hg : (q.cl old[i]).gone = false) : InR U D t x old (i + 1) q (F.set kept.length old[i]) (kept ++ [old[i]]) (some b) := by
  have hm := h.mid
  have he := h.eq
  have hd := h.dr
  have hl := h.le
  rw [List.drop_eq_getElem_cons hi] at hm he
  rw [List.drop_eq_getElem_cons hi, List.drop_eq_getElem_cons (by rw [h.len]; exact hi)] at hd
  injection hd with _ hd
  exact ⟨hm.step_bad, h.ext, he.trans (innerS_bad hg), by rw [List.length_set, h.len], set_take_drop (by have := h.len; omega) h.tk, by rw [List.drop_set_of_lt (by omega)]; exact hd, by simp; omega⟩
theorem InR.look (hD : Dcl D) {t q : St} {x i : Nat} {old F kept : List Nat} (h : InR U D t x old i q F kept none) (hi : i < old.length) (hg : (q.cl old[i]).gone = false) :
    InR U D t x old (i + 1) (lookS q old[i] x).1 (if (lookS q old[i] x).2.1 then F else F.set kept.length old[i]) (if (lookS q old[i] x).2.1 then kept else kept ++ [old[i]]) (if (lookS q old[i] x).2.2 then none else some old[i]) := by
  have hm := h.mid
  have he := h.eq
  have hd := h.dr
  have hl := h.le
  rw [List.drop_eq_getElem_cons hi] at hm he
  rw [List.drop_eq_getElem_cons hi, List.drop_eq_getElem_cons (by rw [h.len]; exact hi)] at hd
  injection hd with _ hd
  obtain ⟨h1, h2⟩ := hm.step_look hD hg
  refine ⟨h1, h.ext.trans h2, he.trans (innerS_look hg), ?_, ?_, ?_, ?_⟩
  · split
    · exact h.len
    · rw [List.length_set, h.len]
  · split
    · exact h.tk
    · exact set_take_drop (by have := h.len; omega) h.tk
  · split
    · exact hd
    · rw [List.drop_set_of_lt (by omega)]; exact hd
  · split
    · omega
    · simp; omega
/-- what look asks for -/
theorem InR.asks {t q : St} {x i : Nat} {old F kept : List Nat} (h : InR U D t x old i q F kept none) (ho : old.length ≤ q.cls.length) (hi : i < old.length) :
    Shp (eff q x F) ∧ old[i] < (eff q x F).cls.length ∧ 2 ≤ ((eff q x F).cl old[i]).lits.length ∧ (∀ y ∈ ((eff q x F).cl old[i]).lits, okL (eff q x F).vars y) ∧ (eff q x F).trail.length ≤ 10000 ∧ (∀ j, ((eff q x F).watch.getD j []).length ≤ q.cls.length) := by
  have hc := h.cLt hi
  have hlt := h.mid.lt old[i] hc
  refine ⟨?_, hc, hlt.1, hlt.2.2.1, ?_, fun j => ?_⟩
  · have : SameL (eff q x (kept ++ old.drop i)) (eff q x F) := by unfold SameL eff; simp
    exact this.shp h.mid.shp
  · have h1 := h.mid.tr.len
    have h2 := h.mid.shp.sm
    have e1 : (eff q x (kept ++ old.drop i)).trail = (eff q x F).trail := rfl
    rw [e1] at h1
    omega
  · show ((eff q x F).wa j).length ≤ _
    rw [wa_eff h.xw]
    split
    · rw [h.len]; exact ho
    · rename_i e
      have := h.mid.wlen j
      rw [wa_eff h.xw, if_neg e] at this
      exact this
theorem InR.vx {t q : St} {x i : Nat} {old F kept : List Nat} {bad : Option Nat} (h : InR U D t x old i q F kept bad) : (eff q x F).val x = 2 := h.mid.vx
theorem InR.start {t : St} {x : Nat} {old : List Nat} (h : Mid U D t x old none) (hw : t.wa x = old) : InR U D t x old 0 t old [] none :=
  ⟨by rw [List.nil_append, List.drop_zero, eff_self hw]; exact h, Ext.refl t, rfl, rfl, rfl, rfl, Nat.le_refl _⟩
/-- the row is put back -/
theorem SAt.setKept {q : St} {x : Nat} {F kept : List Nat} (h : SAt w B S ad vl (eff q x F)) (hx : x < q.watch.length) {gw m cw : Nat} (hwt : vl .wt = .slice (some ⟨gw, 0, none⟩) m cw) {v : Value} (hown : OwnG w B 96 v (kept.map (pC ad)))
    (hn : NewOr w (vl (.wr x)) v) : SAt (w.setCell ⟨gw, x, none⟩ v) B S ad (updV vl (.wr x) v) (eff q x kept) ∧ Stp w B S ad vl (w.setCell ⟨gw, x, none⟩ v) ad (updV vl (.wr x) v) := by
  have hch : Ch (fun i => some i = (vl (.wr x)).ownBlock) w w := ch_new (Below.refl _ _) _
  have hcx : cont (eff q x kept) ad (updV vl (.wr x) v) (.wr x) = kept.map (pC ad) := by simp [cont, eff, hx]
  have hc1 : ∀ r, r ≠ .wr x → r ≠ .wt → cont (eff q x kept) ad (updV vl (.wr x) v) r = cont (eff q x F) ad vl r := ?_
  have hc2 : cont (eff q x kept) ad (updV vl (.wr x) v) .wt = (cont (eff q x F) ad vl .wt).set x v := ?_
  · obtain ⟨h1, h2, h3⟩ := h.setWr x hwt (eff q x kept) (by rw [hcx]; exact hown) hch hn hc1 hc2 rfl rfl (fun _ _ => rfl)
    exact ⟨h1, h.stpWr x hwt hch hn⟩
  · apply List.ext_getElem?
    intro i
    simp only [cont, eff, List.length_set, List.getElem?_map, List.getElem?_set, List.length_map, List.length_range]
    by_cases hi : i < q.watch.length
    · by_cases e : x = i
      · subst e; simp [hx, updV]
      · have e2 : ¬ i = x := fun e2 => e e2.symm
        simp [hi, e, updV, e2]
    · have e : x ≠ i := by omega
      simp [hi, e]
  · intro r hr hr2
    cases r with
    | wr i =>
      have : x ≠ i := fun e => hr (by rw [e])
      simp [cont, eff, this]
    | wt => exact absurd rfl hr2
    | pr => simp [cont, eff, updV]
    | _ => rfl
/-- a clause is put behind those that are kept -/
theorem SAt.keptPush {q : St} {x : Nat} {F : List Nat} (h : SAt w B S ad vl (eff q x F)) (hx : x < q.watch.length) {g n cap k : Nat} (hv : vl (.wr x) = .slice (some ⟨g, 0, none⟩) n cap) (c : Nat) :
    ∃ cur, (w.alloc (.cells #[pC ad c] 96)).heap[g]? = some (.cells cur 96 (0, 0)) ∧ n ≤ cur.size ∧ SAt ((w.alloc (.cells #[pC ad c] 96)).setCell ⟨g, k, none⟩ (pC ad c)) B S ad vl (eff q x (F.set k c)) ∧
      Stp w B S ad vl ((w.alloc (.cells #[pC ad c] 96)).setCell ⟨g, k, none⟩ (pC ad c)) ad vl := by
  have h1 := h.new (below_alloc w (.cells #[pC ad c] 96))
  have h2 := h.rows (.wr x)
  rw [hv] at h2
  rcases h2 with ⟨e, _⟩ | ⟨g', cap', cur, e, hb, hh, q1, q2, q3, q4⟩
  · cases e
  · cases e
    refine ⟨cur, kp_new (below_alloc w _) _ _ hh, ?_, h1.setWat hx hv k c, (h.stpNew (below_alloc w _)).trans (h1.stpRow (.wr x) hv k _)⟩
    omega
end
end Go.Proofs.Ytcebafeaikipmaa.S15

namespace Go.Proofs.Ytcebafeaikipmaa.S15
open Go.RowKit

def shrT (A : List Nat) (i : Nat) : List Nat := (A.take i).map (· / 1048576) ++ A.drop i
theorem shrT_length (A : List Nat) (i : Nat) : (shrT A i).length = A.length := by unfold shrT; simp; omega
theorem shrT_at {A : List Nat} {i : Nat} (h : i < A.length) : (shrT A i)[i]? = some A[i] := by
  unfold shrT
  rw [List.getElem?_append_right (by simp; omega)]
  simp [Nat.min_eq_left (Nat.le_of_lt h), h]
theorem shrT_set {A : List Nat} {i : Nat} (h : i < A.length) : (shrT A i).set i (A[i] / 1048576) = shrT A (i + 1) := by
  unfold shrT
  have hl : ((A.take i).map (· / 1048576)).length = i := by simp; omega
  rw [List.set_append_right _ _ (by rw [hl]; exact Nat.le_refl _), hl, Nat.sub_self, List.take_succ_eq_append_getElem h, List.drop_eq_getElem_cons h, List.map_append, List.append_assoc]
  rfl
theorem shrT_all (A : List Nat) : shrT A A.length = A.map (· / 1048576) := by unfold shrT; simp
set_option maxRecDepth 100000 in
set_option maxHeartbeats 4000000 in
theorem meet_any {w : World} {B S : Nat} {ad : List Nat} {vl : Rl → Value} {s : St} (h : SAt w B S ad vl s) (v : Nat) (hv : v < s.act.length) (hal : s.act.length ≤ 100000) (ha : ∀ x ∈ s.act, x < 1099511627776) (hst : s.step < 2199023255552) :
    Calls Try.prog 63 #[.pointer (some ⟨S, 0, none⟩), .int .i64 (v : Int)] w fun e w' => e = .returned (.tuple #[]) ∧ SAt w' B S ad vl (meetS s v) ∧ Stp w B S ad vl w' ad vl := by
  obtain ⟨ga, ca, hac, -, hga, -, -⟩ := (h.rows .ac).form (by simp [cont]; omega)
  simp only [cont, List.length_map] at hac
  obtain ⟨y, hy⟩ : ∃ y, y = s.act.getD v 0 := ⟨_, rfl⟩
  have hye : y = s.act[v] := by rw [hy, List.getD_eq_getElem?_getD, List.getElem?_eq_getElem hv]; rfl
  have hyb : y < 1099511627776 := by rw [hye]; exact ha _ (List.getElem_mem hv)
  have c8 := h.cellS (k := 8) (v := vl .ac) rfl
  rw [hac] at c8
  have c9 := h.cellS (k := 9) (v := .int .i64 (s.step : Int)) rfl
  have e8 := h.rows .ac
  rw [hac] at e8
  have d0 : w.cell? ⟨ga, v, none⟩ = some (.int .i64 (y : Int)) := e8.cell (by simp [cont, hv, hye])
  have f0 := e8.frozen
  have nS := h.neS .ac (g := ga) (by rw [hac]; rfl)
  have h1 := h.setRow .ac hac v (.int .i64 ((y + s.step : Nat) : Int)) { s with act := s.act.set v (y + s.step) } (fun r hr => by cases r <;> first | rfl | exact absurd rfl hr) (by simp [cont, List.map_set]) rfl rfl (fun _ _ => rfl)
  have p1 := h.stpRow .ac hac v (.int .i64 ((y + s.step : Nat) : Int))
  have hwr : IntKind.i64.wrap ((y : Int) + (s.step : Int)) = ((y + s.step : Nat) : Int) := wrap_nat (by omega) (by omega)
  have H1 := Lib.hid h1
  have P1 := Lib.hid p1
  have Hac := Lib.hid hac
  obtain ⟨R, hR⟩ : ∃ R, R = meetS s v := ⟨_, rfl⟩
  rw [← hR]
  unfold meetS at hR
  rw [← hy] at hR
  have HR := Lib.hid hR
  clear h h1 p1 e8 hac hye hy hR ha
  go_enter Try.func63, Try.ntmps63
  go_wp2_with fail
  go_region
  obtain ⟨w1, hw1⟩ : ∃ w1, w1 = (w.setCell ⟨ga, v, none⟩ (.int .i64 ((y : Int) + (s.step : Int)))).drew := ⟨_, rfl⟩
  rw [← hw1]
  obtain ⟨z, hz⟩ : ∃ z, z = y + s.step := ⟨_, rfl⟩
  rw [show ((y : Int) + (s.step : Int)) = ((y + s.step : Nat) : Int) by omega] at hw1
  rw [← hz] at hw1 H1 P1 HR
  have H2 := Lib.hid (show SAt w1 B S ad vl { s with act := s.act.set v z } by rw [hw1]; exact H1.out.new (Below.refl _ _).drew)
  have P2 := Lib.hid (show Stp w B S ad vl w1 ad vl by rw [hw1]; exact P1.out.trans (H1.out.stpNew (Below.refl _ _).drew))
  have hzb : z < 9223372036854775808 := by omega
  clear hw1 H1 P1 c8 c9 d0 f0 hwr hz hst
  have c8 := H2.out.cellS (k := 8) (v := vl .ac) rfl
  rw [Hac.out] at c8
  have e8 := H2.out.rows .ac
  rw [Hac.out] at e8
  have d0 : w1.cell? ⟨ga, v, none⟩ = some (.int .i64 (z : Int)) := e8.cell (by simp [cont, hv])
  clear e8
  by_cases hg : z < 1099511627776
  · have Hres := Lib.hid (show R = { s with act := s.act.set v z } by rw [HR.out, if_pos hg])
    have z1 : decide ((z : Int) < 1099511627776) = true := decide_eq_true (by omega)
    clear HR hg hyb
    go_wp2
    refine bodyPost_ret (results_none rfl _ _ _) rfl ?_
    rw [Hres.out]
    exact ⟨rfl, H2.out, P2.out⟩
  · have Hres := Lib.hid (show R = { s with act := (s.act.set v z).map (· / 1048576), step := max 16 (s.step / 1048576) } by rw [HR.out, if_neg hg])
    have z1 : decide ((z : Int) < 1099511627776) = false := decide_eq_false (by omega)
    clear HR hg hyb
    go_wp2
    clear c8 d0
    obtain ⟨A, hA⟩ : ∃ A, A = s.act.set v z := ⟨_, rfl⟩
    have hAl : s.act.length = A.length := by rw [hA]; simp
    rw [← hA] at H2 Hres
    rw [hAl] at Hac hal ⊢
    clear hA hAl hv
    go_loopw [31] (fun kv wr => ∃ k : Nat, k ≤ A.length ∧ kv = .int .i64 k ∧ Hid (SAt wr B S ad vl { s with act := shrT A k }) ∧ Hid (Stp w B S ad vl wr ad vl)) (fun kv _ => A.length - (intOf kv).toNat)
    case atStart => exact ⟨0, Nat.zero_le _, rfl, H2, P2⟩
    case round =>
      obtain ⟨k, hkle, rfl, HK, PK⟩ := hrel
      rcases Nat.lt_or_ge k A.length with hk | hk
      · have c8 := HK.out.cellS (k := 8) (v := vl .ac) rfl
        rw [Hac.out] at c8
        have e8 := HK.out.rows .ac
        rw [Hac.out] at e8
        have d0 : wr.cell? ⟨ga, k, none⟩ = some (.int .i64 (A[k] : Nat)) := e8.cell (by simp only [cont, List.getElem?_map, shrT_at hk]; rfl)
        have f0 := e8.frozen
        have h3 := HK.out.setRow .ac Hac.out k (.int .i64 ((A[k] / 1048576 : Nat) : Int)) { s with act := shrT A (k + 1) } (fun r hr => by cases r <;> first | rfl | exact absurd rfl hr) (by simp only [cont]; rw [← shrT_set hk]; simp [List.map_set]) rfl rfl (fun _ _ => rfl)
        have H3 := Lib.hid h3
        have P3 := Lib.hid (PK.out.trans (HK.out.stpRow .ac Hac.out k (.int .i64 ((A[k] / 1048576 : Nat) : Int))))
        clear h3 e8
        go_wp2
        go_roundw
        case rel => exact ⟨k + 1, by omega, by go_num, H3, P3⟩
        case measure => simp [intOf]; omega
      · obtain rfl : k = A.length := by omega
        rw [shrT_all] at HK
        have c9 := HK.out.cellS (k := 9) (v := .int .i64 (s.step : Int)) rfl
        have f9 := HK.out.frozenS 9
        have h3 := HK.out.setNum 9 (.int .i64 ((max 16 (s.step / 1048576) : Nat) : Int)) { s with act := A.map (· / 1048576), step := max 16 (s.step / 1048576) } (fun r => by cases r <;> rfl) rfl rfl (fun _ _ => rfl)
        have H3 := Lib.hid h3
        have P3 := Lib.hid (PK.out.trans (HK.out.stpNum 9 (.int .i64 ((max 16 (s.step / 1048576) : Nat) : Int))))
        clear h3
        go_upto_region 7 with fail
        obtain ⟨q, hq⟩ : ∃ q : Nat, q = s.step := ⟨_, rfl⟩
        rw [← hq] at c9 H3 P3 Hres
        clear hzb z1 hal HK PK hq
        rcases Nat.lt_or_ge 16 (q / 1048576) with hm | hm
        · rw [show max 16 (q / 1048576) = q / 1048576 by omega] at H3 P3 Hres
          have hm2 : 16 < ((q : Int) / 1048576) := by omega
          clear hm
          go_wp2
          go_end0
          rw [Hres.out]
          exact ⟨rfl, H3.out, P3.out⟩
        · rw [show max 16 (q / 1048576) = 16 by omega] at H3 P3 Hres
          have hm2 : ((q : Int) / 1048576) ≤ 16 := by omega
          clear hm
          go_wp2
          go_end0
          rw [Hres.out]
          exact ⟨rfl, H3.out, P3.out⟩
end Go.Proofs.Ytcebafeaikipmaa.S15
