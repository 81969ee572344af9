/- All's closure: every property's value, one behind the other. -/
import Derived.Test.YtpgdioopkcfjdaaPrX12
import Derived.Test.YtpgdioopkcfjdaaPrD11
import Derived.Test.YtpgdioopkcfjdaaPrD10
import Derived.Deep.RegionHeld
namespace Go.Proofs.Ytpgdioopkcfjdaa
open Go.RowKit

/-- the boxes of a call of All: the table's, the row's -/
def AlB (w : World) (n T : Nat) (v : Value) : Prop := w.heap[n]? = some (.cells #[.pointer (some ⟨T, 0, none⟩)] 25 (0, 0)) ∧ w.heap[n + 1]? = some (.cells #[v] 22 (0, 0))
theorem AlB.cells {w : World} {n T : Nat} {v : Value} (h : AlB w n T v) : w.cell? ⟨n, 0, none⟩ = some (.pointer (some ⟨T, 0, none⟩)) ∧ w.cell? ⟨n + 1, 0, none⟩ = some v ∧ w.frozen? ⟨n + 1, 0, none⟩ = false :=
  ⟨cell_of_row _ _ _ _ _ (0, 0) h.1, cell_of_row _ _ _ _ _ (0, 0) h.2, frozen_of_row _ _ _ _ _ h.2⟩
theorem AlB.kp {w w' : World} {n T : Nat} {v : Value} (h : AlB w n T v) (k0 : Kp w w' n) (k1 : Kp w w' (n + 1)) : AlB w' n T v := ⟨k0 _ h.1, k1 _ h.2⟩
theorem AlB.lt {w : World} {n T : Nat} {v : Value} (h : AlB w n T v) : n < w.heap.size ∧ n + 1 < w.heap.size := ⟨(Array.getElem?_eq_some_iff.1 h.1).1, (Array.getElem?_eq_some_iff.1 h.2).1⟩
theorem AlB.set {w : World} {n T : Nat} {v : Value} (h : AlB w n T v) (v' : Value) : AlB (w.setCell ⟨n + 1, 0, none⟩ v') n T v' :=
  ⟨((ch_set w (n + 1) 0 v').kp (k := n) (by omega)).at_ h.1, by rw [heap_setCell_same w (n + 1) 0 _ _ _ h.2]; rfl⟩
theorem allP_step {L U : PL} {k : Nat} {D ql : PL} (hk : k < U.length) : allP L (U.drop k) D ql = (match valP L 32 [] D U[k].1 with
    | (.ok v, done') => allP L (U.drop (k + 1)) done' (ql ++ [(U[k].1, v)])
    | (.loop n, done') => (some (22, n), ql, done')
    | (.big n, done') => (some (2, n), ql, done')) := by
  conv => lhs; rw [List.drop_eq_getElem_cons hk]
  rfl
theorem all_keeps {w w' : World} {B T R Dn n a b Q N : Nat} {lv v : Value} {L U done ql : PL} {c : Array Value} (ht : TabAt w B T R Dn lv L U done) (hch : Ch (ChT T Dn) w w') (hx : AlB w n T v) (hq : w.heap[Q]? = some (.cells c 42 (0, 0))) (he : EN w a b 0 []) (hp : POwn w N v ql) :
    AlB w' n T v ∧ w'.heap[Q]? = some (.cells c 42 (0, 0)) ∧ EN w' a b 0 [] ∧ POwn w' N v ql :=
  ⟨hx.kp (tab_keeps ht hch hx.1 (by decide)) (tab_keeps ht hch hx.2 (by decide)), (tab_keeps ht hch hq (by decide)).at_ hq, he.kp (tab_keeps ht hch he.1 (by decide)) (tab_keeps ht hch he.2 (by decide)), own_kp hp fun g2 hg2 => by
    obtain ⟨c3, h3⟩ := own_obj hp hg2
    exact tab_keeps ht hch h3 (by decide)⟩
theorem all_push {w0 w w5 : World} {B T R Dn n a b : Nat} {lv v v0 v' : Value} {L U done D ql ql' : PL} {o : Obj} (h0 : TabAt w0 B T R Dn lv L U done) (hx0 : AlB w0 n T v0) (he0 : EN w0 a b 0 []) (hne : a ≠ n + 1 ∧ b ≠ n + 1) (ht : TabAt w B T R Dn lv L U D) (hx : AlB w n T v) (he : EN w a b 0 []) (hp : POwn w w0.heap.size v ql)
    (hown : POwn w5 w0.heap.size v' ql') (hg : (w.alloc o).grownBy w5 v.ownBlock) :
    AlB w5 n T v ∧ TabAt (w5.setCell ⟨n + 1, 0, none⟩ v') B T R Dn lv L U D ∧ AlB (w5.setCell ⟨n + 1, 0, none⟩ v') n T v' ∧ EN (w5.setCell ⟨n + 1, 0, none⟩ v') a b 0 [] ∧ POwn (w5.setCell ⟨n + 1, 0, none⟩ v') w0.heap.size v' ql' ∧ Ch (fun k => k = n + 1 ∨ w0.heap.size ≤ k) w (w5.setCell ⟨n + 1, 0, none⟩ v') := by
  have c1 : Ch (fun k => some k = v.ownBlock) w w5 := (ch_new (below_alloc w o) _).trans (ch_grown hg)
  have hlo : ∀ k, some k = v.ownBlock → w0.heap.size ≤ k := fun k e => (hp.lt k e.symm).1
  have key : ∀ {k : Nat}, k < w0.heap.size → Kp w w5 k := fun {k} hk => c1.kp fun e => by have := hlo k e; omega
  have ht5 := ht.kp_lt h0 c1 hlo
  have hx5 := hx.kp (key hx0.lt.1) (key hx0.lt.2)
  have he5 := he.kp (key (Array.getElem?_eq_some_iff.1 he0.1).1) (key (Array.getElem?_eq_some_iff.1 he0.2).1)
  have c2 := ch_set w5 (n + 1) 0 v'
  refine ⟨hx5, ht5.kp_set hx5.2 (by decide) (by decide), hx5.set v', he5.kp (c2.kp hne.1) (c2.kp hne.2), own_kp hown fun g hg2 => c2.kp ?_, (c1.imp fun k _ e => .inr (hlo k e)).trans (c2.imp fun k _ e => .inl e)⟩
  have := (POwn.lt hown g hg2).1
  have := hx0.lt.2
  omega
/-- what All's closure ends in -/
def AllOut (w : World) (B T R Dn : Nat) (lv : Value) (L U : PL) (n a b : Nat) (r : Option (Int × Bs) × PL × PL) (e : Ending) (w' : World) : Prop :=
  (match r.1 with | none => e = .returned (.tuple #[]) | some cn => e = .panicked (flt cn.1 cn.2)) ∧ EN w' a b 0 [] ∧ TabAt w' B T R Dn lv L U r.2.2 ∧ (∃ v, AlB w' n T v ∧ POwn w' w.heap.size v r.2.1) ∧ Ch (fun k => ChT T Dn k ∨ k = n + 1) w w'
theorem all_bad {w w' : World} {B T R Dn n a b : Nat} {lv v : Value} {L U dn ql : PL} {RR : Option (Int × Bs) × PL × PL} {cn : Int × Bs} (e : RR = (some cn, ql, dn)) (h1 : EN w' a b 0 []) (h2 : TabAt w' B T R Dn lv L U dn) (h3 : AlB w' n T v) (h4 : POwn w' w.heap.size v ql) (h5 : Ch (fun k => ChT T Dn k ∨ k = n + 1) w w') :
    AllOut w B T R Dn lv L U n a b RR (.panicked (flt cn.1 cn.2)) w' := by
  subst e
  exact ⟨rfl, h1, h2, ⟨v, h3, h4⟩, h5⟩
set_option maxRecDepth 100000 in
set_option maxHeartbeats 8000000 in
theorem all1_any {m : Int} {B T R Dn : Nat} {lv : Value} {L U : PL} (hB : 0 < B) (hL : ∀ p ∈ L, p.2.length ≤ 1000000) (hU : ∀ p ∈ U, (lookP L p.1).isSome = true ∧ p.1.length ≤ 1000000) (hUl : U.length ≤ 1000) (done : PL) (w : World) (n a b : Nat) (hm : MaxAt m w) (ht : TabAt w B T R Dn lv L U done) (hx : AlB w n T (.slice none 0 0)) (he : EN w a b 0 []) (hne : a ≠ n + 1 ∧ b ≠ n + 1) (hBn : B ≤ n) :
    Calls Try.prog 36 #[.pointer (some ⟨n, 0, none⟩), .pointer (some ⟨n + 1, 0, none⟩)] w (AllOut w B T R Dn lv L U n a b (allP L U done [])) := by
  obtain ⟨RR, hR⟩ : ∃ RR, RR = allP L U done [] := ⟨_, rfl⟩
  rw [← hR]
  obtain ⟨A, c, rfl⟩ := ht.own.shape
  obtain ⟨x0, x1, -⟩ := hx.cells
  have t0 := ht.cells.1
  have HR := Lib.hid hR
  have HT := Lib.hid ht
  have HX := Lib.hid hx
  have HE := Lib.hid he
  have HM := Lib.hid hm
  have Hne := Lib.hid hne
  have HU := Lib.hid hU
  have HV := Lib.hid (fun m => valOK (m := m) (B := B) (T := T) (R := R) (Dn := Dn) (lv := .slice A U.length c) (U := U) hB hL 32)
  clear hR hx he hm hne hU ht
  go_enter Try.func36, Try.ntmps36
  go_wp2
  clear x0 x1 t0
  go_loopw [9] (fun kv wr => ∃ (k : Nat) (D ql : PL) (v : Value), k ≤ U.length ∧ kv = .int .i64 k ∧ Hid (TabAt wr B T R Dn (.slice A U.length c) L U D) ∧ Hid (AlB wr n T v) ∧ Hid (POwn wr w.heap.size v ql) ∧ Hid (EN wr a b 0 []) ∧ Hid (Ch (fun k => ChT T Dn k ∨ k = n + 1) w wr) ∧ Hid (RR = allP L (U.drop k) D ql) ∧ ql.length ≤ k) (fun kv _ => U.length - (intOf kv).toNat)
  case atStart => exact ⟨0, done, [], _, Nat.zero_le _, rfl, HT, HX, Lib.hid (POwn.nil _ _), HE, Lib.hid (Ch.refl _ _), HR, by simp⟩
  case round =>
    obtain ⟨k, D, ql, v, hkle, rfl, HT3, HX3, HP3, HE3, HC3, HR3, hql⟩ := hrel
    rcases Nat.lt_or_ge k U.length with hk | hk
    · obtain ⟨g, cap, hg, -, -⟩ := HT3.out.own.form (by omega)
      injection hg with hg _ hg2
      subst hg
      subst hg2
      have d0 := World.ownsRow.cells HT3.out.own (g := g) rfl (k * 2) _ (pcellsL_at hk).1
      have d1 := World.ownsRow.cells HT3.out.own (g := g) rfl (k * 2 + 1) _ (pcellsL_at hk).2
      rw [add_none, Nat.zero_add] at d0 d1
      obtain ⟨x0, x1, f1⟩ := HX3.out.cells
      obtain ⟨Av, cv, rfl⟩ := HP3.out.shape
      have HQ := Lib.hid (show (wr.alloc (.cells #[sv U[k].1, sv U[k].2] 42)).heap[wr.heap.size]? = _ from heap_alloc_new wr _)
      have Hb := Lib.hid (show Below wr.heap.size wr (wr.alloc (.cells #[sv U[k].1, sv U[k].2] 42)) from below_alloc _ _)
      obtain ⟨Q, hQ⟩ : ∃ Q, Q = wr.heap.size := ⟨_, rfl⟩
      obtain ⟨wx, hwx⟩ : ∃ wx, wx = wr.alloc (.cells #[sv U[k].1, sv U[k].2] 42) := ⟨_, rfl⟩
      rw [← hwx] at HQ Hb
      rw [← hQ] at HQ
      have HT4 := Lib.hid (HT3.out.new Hb.out)
      have HX4 := Lib.hid (HX3.out.kp (kp_new Hb.out _) (kp_new Hb.out _))
      have HE4 := Lib.hid (HE3.out.kp (kp_new Hb.out _) (kp_new Hb.out _))
      have HP4 := Lib.hid (own_kp HP3.out fun _ _ => kp_new Hb.out _)
      have HC4 := Lib.hid (HC3.out.belowR (Hb.out.mono HC3.out.size))
      have Hql := Lib.hid (show ql.length < 1000000000000 by omega)
      have hwn : WayOK [] D := fun _ h => by cases h
      obtain ⟨hlk, hnl⟩ := HU.out U[k] (List.getElem_mem hk)
      have hBw : B ≤ w.heap.size := by have := HT.out.lo.1; have := (Array.getElem?_eq_some_iff.1 HT.out.hT).1; omega
      obtain ⟨wd, hwd⟩ : ∃ wd, wd = (wx.alloc (.cells #[.pointer (some ⟨T, 0, none⟩), .slice none 0 0] 71)).drew := ⟨_, rfl⟩
      have hbd : Below wx.heap.size wx wx.drew := (Below.refl _ _).drew
      have hlo : ∀ k, (ChT T Dn k ∨ k = n + 1) → B ≤ k := by
        rintro k ((e | e) | e)
        · rw [e]; exact HT.out.lo.1
        · rw [e]; exact HT.out.lo.2.2
        · omega
      have HV4 := HV.out m [] D U[k].1 (wx.drew.alloc (.cells #[.pointer (some ⟨T, 0, none⟩), .slice none 0 0] 71)) wx.drew.heap.size (.slice none 0 0)
        ((maxAt_ch HM.out hB (HC4.out.belowR (hbd.mono HC4.out.size)) hlo).below (below_alloc _ _) (by have := HC4.out.size; have := hbd.size; omega)) rfl hlk hwn (HT4.out.new (hbd.alloc (Nat.le_refl _) _)) (wk_start wx.drew T B (by have := HC4.out.size; have := hbd.size; omega)) hnl
      have HV4 : Calls Try.prog 37 #[.pointer (some ⟨wx.heap.size, 0, none⟩), sv U[k].1] wd (Out B T R Dn (.slice (some ⟨g, 0, none⟩) U.length c) L U wx.drew.heap.size (.slice none 0 0) [] (wx.drew.alloc (.cells #[.pointer (some ⟨T, 0, none⟩), .slice none 0 0] 71)) (valP L 32 [] D U[k].1)) := by rw [hwd]; exact HV4
      go_wp2
      rw [← hQ, ← hwx]
      have Hwx := Lib.hid hwx
      have HQe := Lib.hid hQ
      clear hwx hQ d0 d1 x0 x1 f1
      have HXd := Lib.hid (show AlB wd n T (.slice Av ql.length cv) by rw [hwd]; exact HX4.out.kp (kp_new ((below_alloc _ _).drew) _) (kp_new ((below_alloc _ _).drew) _))
      have HQd := Lib.hid (show wd.heap[Q]? = some (.cells #[sv U[k].1, sv U[k].2] 42 (0, 0)) by rw [hwd]; exact (kp_new ((below_alloc _ _).drew) _).at_ HQ.out)
      have HTd := Lib.hid (HT4.out.new hbd)
      have HEd := Lib.hid (HE4.out.kp (kp_new hbd _) (kp_new hbd _))
      have HXe := Lib.hid (HX4.out.kp (kp_new hbd _) (kp_new hbd _))
      have HQd2 := Lib.hid ((kp_new hbd _).at_ HQ.out)
      have HPd := Lib.hid (show POwn wx.drew w.heap.size (.slice Av ql.length cv) ql from own_kp HP4.out fun _ _ => kp_new hbd _)
      have HCd := Lib.hid (HC4.out.belowR (hbd.mono HC4.out.size))
      have Hwd := Lib.hid hwd
      obtain ⟨x0, x1, f1⟩ := HXd.out.cells
      obtain ⟨y0, y1⟩ := two_cells HQd.out
      obtain ⟨x2, x3, f3⟩ := HX4.out.cells
      obtain ⟨y2, y3⟩ := two_cells HQ.out
      rw [hwd] at x0 x1 f1 y0 y1
      clear hbd hlo hwd
      have HQk := Lib.hid (fun (w1 w2 : World) (o : Obj) (hg : (w1.alloc o).grownBy w2 (Value.slice Av ql.length cv).ownBlock) => show Kp w1 w2 Q from ((ch_new (below_alloc w1 o) _).trans (ch_grown hg)).kp fun e => by have := (POwn.lt HP3.out Q e.symm).2; have := HQe.out; omega)
      have hQn : ¬ Q = n + 1 := by have := HX.out.lt.2; have := HC3.out.size; have := HQe.out; omega
      have hQn2 : ¬ n + 1 = Q := fun e => hQn e.symm
      cases hv : valP L 32 [] D U[k].1 with
      | mk x dn =>
      have HE5 := HR3.out.trans (allP_step hk)
      rw [hv] at HE5 HV4
      have HR5 := Lib.hid HE5
      clear hv HE5
      cases x with
      | loop nm =>
        have e1 : RR = (some (22, nm), ql, dn) := HR5.out
        refine wp_region_held_drew (S := (fun w' => w'.cell? ⟨n, 0, none⟩ = some (.pointer (some ⟨T, 0, none⟩)) ∧ w'.cell? ⟨n + 1, 0, none⟩ = some (.slice Av ql.length cv) ∧ w'.cell? ⟨Q, 0, none⟩ = some (sv U[k].1))) (by kernel_rfl) ⟨x2, x3, y2⟩ (fun hHeld => ?_)
        refine wpAnyH_take (i := 0) (v := ?_) rfl (by kernel_rfl) (by kernel_rfl) (by kernel_rfl) (fun _ _ _ h => h) (Or.inl ⟨by rfl, ?_⟩) (by assumption) ?_
        rotate_left
        · intro w1 hSw
          (try dsimp only at hSw)
          go_simp
          (try with_reducible rfl)
        (try simp only [Act.put, List.setIfInBounds_toArray, List.set_cons_zero, List.set_cons_succ])
        refine wpAnyH_take (i := 1) (v := ?_) rfl (by kernel_rfl) (by kernel_rfl) (by kernel_rfl) (fun _ _ _ h => h) (Or.inl ⟨by rfl, ?_⟩) (by assumption) ?_
        rotate_left
        · intro w1 hSw
          (try dsimp only at hSw)
          go_simp
          (try with_reducible rfl)
        (try simp only [Act.put, List.setIfInBounds_toArray, List.set_cons_zero, List.set_cons_succ])
        refine wpAnyH_take (i := 2) (v := ?_) rfl (by kernel_rfl) (by kernel_rfl) (by kernel_rfl) (fun _ _ _ h => h) (Or.inl ⟨by rfl, ?_⟩) (by assumption) ?_
        rotate_left
        · intro w1 hSw
          (try dsimp only at hSw)
          go_simp
          (try with_reducible rfl)
        (try simp only [Act.put, List.setIfInBounds_toArray, List.set_cons_zero, List.set_cons_succ])
        refine wpAnyH_take (i := 3) (v := ?_) rfl (by kernel_rfl) (by kernel_rfl) (by kernel_rfl) (fun _ _ _ h => h) (Or.inl ⟨by rfl, ?_⟩) (by assumption) ?_
        rotate_left
        · intro w1 hSw
          (try dsimp only at hSw)
          go_simp
          (try with_reducible rfl)
        (try simp only [Act.put, List.setIfInBounds_toArray, List.set_cons_zero, List.set_cons_succ])
        refine wpAnyH_take (i := 4) (v := ?_) rfl (by kernel_rfl) (by kernel_rfl) (by kernel_rfl) (fun _ _ _ h => h) (Or.inl ⟨by rfl, ?_⟩) (by assumption) ?_
        rotate_left
        · intro w1 hSw
          (try dsimp only at hSw)
          go_simp
          (try with_reducible rfl)
        (try simp only [Act.put, List.setIfInBounds_toArray, List.set_cons_zero, List.set_cons_succ])
        refine wpAnyH_take (i := 6) (v := ?_) rfl (by kernel_rfl) (by kernel_rfl) (by kernel_rfl) (fun _ _ _ h => h) (Or.inl ⟨by rfl, ?_⟩) (by assumption) ?_
        rotate_left
        · intro w1 hSw
          (try dsimp only at hSw)
          go_simp
          (try with_reducible rfl)
        (try simp only [Act.put, List.setIfInBounds_toArray, List.set_cons_zero, List.set_cons_succ])
        refine wpAnyH_take (i := 7) (v := ?_) rfl (by kernel_rfl) (by kernel_rfl) (by kernel_rfl) (fun _ _ _ h => h) (Or.inl ⟨by rfl, ?_⟩) (by assumption) ?_
        rotate_left
        · intro w1 hSw
          (try dsimp only at hSw)
          go_simp
          (try with_reducible rfl)
        (try simp only [Act.put, List.setIfInBounds_toArray, List.set_cons_zero, List.set_cons_succ])
        refine wpAnyH_ready (rs := [5]) (by kernel_rfl) (by simp) ?_
        refine AllReadyH.cons rfl (fun K hK => ?_) AllReadyH.nil
        go_simp
        refine hK.out _ _ ⟨x0, x1, y0⟩ (fun hHeld2 => ?_)
        clear hK K
        (try simp only [Act.put, List.setIfInBounds_toArray, List.set_cons_zero, List.set_cons_succ])
        refine wpAnyH_ready (rs := [8]) (by kernel_rfl) (by simp) ?_
        refine AllReadyH.cons rfl (fun K hK => ?_) AllReadyH.nil
        go_simp
        go_wp2_with fail
        rw [← Hwd.out]
        refine HV4.mono ?_
        intro e w9 ho
        obtain ⟨rfl, hch, htab⟩ := out_bad ho (c := 22) (n := nm) rfl
        have HC9 := HCd.out.trans (hch.imp fun _ _ e => .inl e)
        obtain ⟨k1, k2, k3, k4⟩ := all_keeps HTd.out hch HXe.out HQd2.out HEd.out HPd.out
        exact And.intro rfl (all_bad (cn := (22, nm)) e1 k3 htab k1 k4 HC9)
      | big nm =>
        have e1 : RR = (some (2, nm), ql, dn) := HR5.out
        refine wp_region_held_drew (S := (fun w' => w'.cell? ⟨n, 0, none⟩ = some (.pointer (some ⟨T, 0, none⟩)) ∧ w'.cell? ⟨n + 1, 0, none⟩ = some (.slice Av ql.length cv) ∧ w'.cell? ⟨Q, 0, none⟩ = some (sv U[k].1))) (by kernel_rfl) ⟨x2, x3, y2⟩ (fun hHeld => ?_)
        refine wpAnyH_take (i := 0) (v := ?_) rfl (by kernel_rfl) (by kernel_rfl) (by kernel_rfl) (fun _ _ _ h => h) (Or.inl ⟨by rfl, ?_⟩) (by assumption) ?_
        rotate_left
        · intro w1 hSw
          (try dsimp only at hSw)
          go_simp
          (try with_reducible rfl)
        (try simp only [Act.put, List.setIfInBounds_toArray, List.set_cons_zero, List.set_cons_succ])
        refine wpAnyH_take (i := 1) (v := ?_) rfl (by kernel_rfl) (by kernel_rfl) (by kernel_rfl) (fun _ _ _ h => h) (Or.inl ⟨by rfl, ?_⟩) (by assumption) ?_
        rotate_left
        · intro w1 hSw
          (try dsimp only at hSw)
          go_simp
          (try with_reducible rfl)
        (try simp only [Act.put, List.setIfInBounds_toArray, List.set_cons_zero, List.set_cons_succ])
        refine wpAnyH_take (i := 2) (v := ?_) rfl (by kernel_rfl) (by kernel_rfl) (by kernel_rfl) (fun _ _ _ h => h) (Or.inl ⟨by rfl, ?_⟩) (by assumption) ?_
        rotate_left
        · intro w1 hSw
          (try dsimp only at hSw)
          go_simp
          (try with_reducible rfl)
        (try simp only [Act.put, List.setIfInBounds_toArray, List.set_cons_zero, List.set_cons_succ])
        refine wpAnyH_take (i := 3) (v := ?_) rfl (by kernel_rfl) (by kernel_rfl) (by kernel_rfl) (fun _ _ _ h => h) (Or.inl ⟨by rfl, ?_⟩) (by assumption) ?_
        rotate_left
        · intro w1 hSw
          (try dsimp only at hSw)
          go_simp
          (try with_reducible rfl)
        (try simp only [Act.put, List.setIfInBounds_toArray, List.set_cons_zero, List.set_cons_succ])
        refine wpAnyH_take (i := 4) (v := ?_) rfl (by kernel_rfl) (by kernel_rfl) (by kernel_rfl) (fun _ _ _ h => h) (Or.inl ⟨by rfl, ?_⟩) (by assumption) ?_
        rotate_left
        · intro w1 hSw
          (try dsimp only at hSw)
          go_simp
          (try with_reducible rfl)
        (try simp only [Act.put, List.setIfInBounds_toArray, List.set_cons_zero, List.set_cons_succ])
        refine wpAnyH_take (i := 6) (v := ?_) rfl (by kernel_rfl) (by kernel_rfl) (by kernel_rfl) (fun _ _ _ h => h) (Or.inl ⟨by rfl, ?_⟩) (by assumption) ?_
        rotate_left
        · intro w1 hSw
          (try dsimp only at hSw)
          go_simp
          (try with_reducible rfl)
        (try simp only [Act.put, List.setIfInBounds_toArray, List.set_cons_zero, List.set_cons_succ])
        refine wpAnyH_take (i := 7) (v := ?_) rfl (by kernel_rfl) (by kernel_rfl) (by kernel_rfl) (fun _ _ _ h => h) (Or.inl ⟨by rfl, ?_⟩) (by assumption) ?_
        rotate_left
        · intro w1 hSw
          (try dsimp only at hSw)
          go_simp
          (try with_reducible rfl)
        (try simp only [Act.put, List.setIfInBounds_toArray, List.set_cons_zero, List.set_cons_succ])
        refine wpAnyH_ready (rs := [5]) (by kernel_rfl) (by simp) ?_
        refine AllReadyH.cons rfl (fun K hK => ?_) AllReadyH.nil
        go_simp
        refine hK.out _ _ ⟨x0, x1, y0⟩ (fun hHeld2 => ?_)
        clear hK K
        (try simp only [Act.put, List.setIfInBounds_toArray, List.set_cons_zero, List.set_cons_succ])
        refine wpAnyH_ready (rs := [8]) (by kernel_rfl) (by simp) ?_
        refine AllReadyH.cons rfl (fun K hK => ?_) AllReadyH.nil
        go_simp
        go_wp2_with fail
        rw [← Hwd.out]
        refine HV4.mono ?_
        intro e w9 ho
        obtain ⟨rfl, hch, htab⟩ := out_bad ho (c := 2) (n := nm) rfl
        have HC9 := HCd.out.trans (hch.imp fun _ _ e => .inl e)
        obtain ⟨k1, k2, k3, k4⟩ := all_keeps HTd.out hch HXe.out HQd2.out HEd.out HPd.out
        exact And.intro rfl (all_bad (cn := (2, nm)) e1 k3 htab k1 k4 HC9)
      | ok vv =>
        refine wp_region_held_drew (S := (fun w' => w'.cell? ⟨n, 0, none⟩ = some (.pointer (some ⟨T, 0, none⟩)) ∧ w'.cell? ⟨Q, 0, none⟩ = some (sv U[k].1))) (by kernel_rfl) ⟨x2, y2⟩ (fun hHeld => ?_)
        refine wpAnyH_take (i := 1) (v := ?_) rfl (by kernel_rfl) (by kernel_rfl) (by kernel_rfl) (fun _ _ _ h => h) (Or.inl ⟨by rfl, ?_⟩) (by assumption) ?_
        rotate_left
        · intro w1 hSw
          (try dsimp only at hSw)
          go_simp
          (try with_reducible rfl)
        (try simp only [Act.put, List.setIfInBounds_toArray, List.set_cons_zero, List.set_cons_succ])
        refine wpAnyH_take (i := 2) (v := ?_) rfl (by kernel_rfl) (by kernel_rfl) (by kernel_rfl) (fun _ _ _ h => h) (Or.inl ⟨by rfl, ?_⟩) (by assumption) ?_
        rotate_left
        · intro w1 hSw
          (try dsimp only at hSw)
          go_simp
          (try with_reducible rfl)
        (try simp only [Act.put, List.setIfInBounds_toArray, List.set_cons_zero, List.set_cons_succ])
        refine wpAnyH_take (i := 3) (v := ?_) rfl (by kernel_rfl) (by kernel_rfl) (by kernel_rfl) (fun _ _ _ h => h) (Or.inl ⟨by rfl, ?_⟩) (by assumption) ?_
        rotate_left
        · intro w1 hSw
          (try dsimp only at hSw)
          go_simp
          (try with_reducible rfl)
        (try simp only [Act.put, List.setIfInBounds_toArray, List.set_cons_zero, List.set_cons_succ])
        refine wpAnyH_take (i := 4) (v := ?_) rfl (by kernel_rfl) (by kernel_rfl) (by kernel_rfl) (fun _ _ _ h => h) (Or.inl ⟨by rfl, ?_⟩) (by assumption) ?_
        rotate_left
        · intro w1 hSw
          (try dsimp only at hSw)
          go_simp
          (try with_reducible rfl)
        (try simp only [Act.put, List.setIfInBounds_toArray, List.set_cons_zero, List.set_cons_succ])
        refine wpAnyH_take (i := 6) (v := ?_) rfl (by kernel_rfl) (by kernel_rfl) (by kernel_rfl) (fun _ _ _ h => h) (Or.inl ⟨by rfl, ?_⟩) (by assumption) ?_
        rotate_left
        · intro w1 hSw
          (try dsimp only at hSw)
          go_simp
          (try with_reducible rfl)
        (try simp only [Act.put, List.setIfInBounds_toArray, List.set_cons_zero, List.set_cons_succ])
        refine wpAnyH_take (i := 7) (v := ?_) rfl (by kernel_rfl) (by kernel_rfl) (by kernel_rfl) (fun _ _ _ h => h) (Or.inl ⟨by rfl, ?_⟩) (by assumption) ?_
        rotate_left
        · intro w1 hSw
          (try dsimp only at hSw)
          go_simp
          (try with_reducible rfl)
        (try simp only [Act.put, List.setIfInBounds_toArray, List.set_cons_zero, List.set_cons_succ])
        refine wpAnyH_ready (rs := [0, 5]) (by kernel_rfl) (by simp) ?_
        refine AllReadyH.cons rfl (fun K hK => ?_) (AllReadyH.cons rfl (fun K hK => ?_) AllReadyH.nil)
        · skip
          go_simp
          refine hK.out _ _ ⟨x2, y2⟩ (fun hHeld => ?_)
          clear hK K
          (try simp only [Act.put, List.setIfInBounds_toArray, List.set_cons_zero, List.set_cons_succ])
          refine wpAnyH_ready (rs := [5]) (by kernel_rfl) (by simp) ?_
          refine AllReadyH.cons rfl (fun K hK => ?_) AllReadyH.nil
          go_simp
          refine hK.out _ _ ⟨x0, y0⟩ (fun hHeld => ?_)
          clear hK K
          (try simp only [Act.put, List.setIfInBounds_toArray, List.set_cons_zero, List.set_cons_succ])
          refine wpAnyH_ready (rs := [8]) (by kernel_rfl) (by simp) ?_
          refine AllReadyH.cons rfl (fun K hK => ?_) AllReadyH.nil
          go_simp
          go_wp2_with fail
          rw [← Hwd.out]
          refine HV4.mono ?_
          intro e w9 ho
          obtain ⟨rfl, hvl, hch, htab⟩ := out_ok ho
          have HT9 := Lib.hid htab
          have HC9 := Lib.hid (HCd.out.trans (hch.imp fun _ _ e => .inl e))
          obtain ⟨k1, k2, k3, k4⟩ := all_keeps HTd.out hch HXe.out HQd2.out HEd.out HPd.out
          have HX9 := Lib.hid k1
          have HQ9 := Lib.hid k2
          have HE9 := Lib.hid k3
          have HP9 := Lib.hid k4
          have Hs9 := Lib.hid (Nat.le_trans HC9.out.size (below_alloc w9 (.cells #[sv U[k].1, sv vv] 42)).size)
          clear k1 k2 k3 k4 hch htab
          obtain ⟨x4, x5, f5⟩ := HX9.out.cells
          have y4 := (two_cells HQ9.out).1
          have y6 := (two_cells ((kp_new (below_alloc w9 (.cells #[sv U[k].1, sv vv] 42)) Q).at_ HQ9.out)).1
          obtain ⟨x6, x7, f7⟩ := (AlB.kp HX9.out (kp_new (below_alloc w9 (.cells #[sv U[k].1, sv vv] 42)) n) (kp_new (below_alloc w9 (.cells #[sv U[k].1, sv vv] 42)) (n + 1))).cells
          dsimp only
          refine hK.out _ _ ⟨x4, y4⟩ (fun hHeld => ?_)
          clear hK K
          (try simp only [Act.put, List.setIfInBounds_toArray, List.set_cons_zero, List.set_cons_succ])
          refine wpAnyH_take (i := 9) (v := ?_) rfl (by kernel_rfl) (by kernel_rfl) (by kernel_rfl) (fun _ _ _ h => h) (Or.inl ⟨by rfl, ?_⟩) (by assumption) ?_
          rotate_left
          · intro w1 hSw
            (try dsimp only at hSw)
            go_simp
            (try with_reducible rfl)
          (try simp only [Act.put, List.setIfInBounds_toArray, List.set_cons_zero, List.set_cons_succ])
          refine wpAnyH_ready (rs := [10]) (by kernel_rfl) (by simp) ?_
          refine AllReadyH.cons rfl (fun K hK => ?_) AllReadyH.nil
          go_simp
          refine hK.out _ _ ⟨x6, y6⟩ (fun hHeld => ?_)
          clear hK K
          (try simp only [Act.put, List.setIfInBounds_toArray, List.set_cons_zero, List.set_cons_succ])
          refine wpAnyH_ready (rs := [11]) (by kernel_rfl) (by simp) ?_
          refine AllReadyH.cons rfl (fun K hK => ?_) AllReadyH.nil
          refine step_pushP (by rfl) _ _ (by rfl) (v := .slice Av ql.length cv) (by rfl) (POwn.alloc HP9.out _) w9.heap.size (U[k].1, vv) (by rfl) (two_new _ _ _ _).1 (two_new _ _ _ _).2 Hql.out Hs9.out ?_
          intro v1 w5 hown1 hg1 hat1
          obtain ⟨A2, c2, rfl⟩ := hown1.shape
          obtain ⟨k1, k2, k3, k4, k5, k6⟩ := all_push HT.out HX.out HE.out Hne.out HT9.out HX9.out HE9.out HP9.out hown1 hg1
          obtain ⟨z0, z1, zf⟩ := k1.cells
          have zq := (two_cells ((HQk.out _ _ _ hg1).at_ HQ9.out)).1
          have HT10 := Lib.hid k2
          have HX10 := Lib.hid k3
          have HE10 := Lib.hid k4
          have HP10 := Lib.hid k5
          have HC10 := Lib.hid k6
          refine hK.out _ _ ⟨z0, zq⟩ (fun hHeld => ?_)
          clear hK K
          (try simp only [Act.put, List.setIfInBounds_toArray, List.set_cons_zero, List.set_cons_succ])
          refine wpAnyH_ready (rs := [12]) (by kernel_rfl) (by simp) ?_
          refine AllReadyH.cons rfl (fun K hK => ?_) AllReadyH.nil
          go_simp
          refine hK.out _ _ ⟨by rw [World.cell?_setCell_far _ _ _ _ (show n + 1 ≠ n by omega)]; exact z0, by rw [World.cell?_setCell_far _ _ _ _ hQn2]; exact zq⟩ (fun hHeld => ?_)
          clear hK K
          (try simp only [Act.put, List.setIfInBounds_toArray, List.set_cons_zero, List.set_cons_succ])
          refine wpAnyH_done (by kernel_rfl) ?_ _
          have HC11 := Lib.hid (HC9.out.up HC10.out (by
            rintro k (rfl | e)
            · exact .inl (.inr rfl)
            · exact .inr e))
          have el : (ql ++ [(U[k].1, vv)]).length = ql.length + 1 := by simp
          rw [el] at HT10 HX10 HE10 HP10 HC11
          clear x0 x1 f1 y0 y1 x2 x3 f3 y2 y3 x4 x5 f5 y4 y6 x6 x7 f7 z0 z1 zf zq
          go_wp2
          go_roundw
          case rel => exact ⟨k + 1, dn, ql ++ [(U[k].1, vv)], _, by omega, by go_num, HT10, HX10, HP10, HE10, HC11, HR5, by simp; omega⟩
          case measure => simp [intOf]; omega
        · skip
          go_simp
          refine hK.out _ _ ⟨x0, y0⟩ (fun hHeld => ?_)
          clear hK K
          (try simp only [Act.put, List.setIfInBounds_toArray, List.set_cons_zero, List.set_cons_succ])
          refine wpAnyH_ready (rs := [0, 8]) (by kernel_rfl) (by simp) ?_
          refine AllReadyH.cons rfl (fun K hK => ?_) (AllReadyH.cons rfl (fun K hK => ?_) AllReadyH.nil)
          · skip
            go_simp
            refine hK.out _ _ ⟨x0, y0⟩ (fun hHeld => ?_)
            clear hK K
            (try simp only [Act.put, List.setIfInBounds_toArray, List.set_cons_zero, List.set_cons_succ])
            refine wpAnyH_ready (rs := [8]) (by kernel_rfl) (by simp) ?_
            refine AllReadyH.cons rfl (fun K hK => ?_) AllReadyH.nil
            go_simp
            go_wp2_with fail
            rw [← Hwd.out]
            refine HV4.mono ?_
            intro e w9 ho
            obtain ⟨rfl, hvl, hch, htab⟩ := out_ok ho
            have HT9 := Lib.hid htab
            have HC9 := Lib.hid (HCd.out.trans (hch.imp fun _ _ e => .inl e))
            obtain ⟨k1, k2, k3, k4⟩ := all_keeps HTd.out hch HXe.out HQd2.out HEd.out HPd.out
            have HX9 := Lib.hid k1
            have HQ9 := Lib.hid k2
            have HE9 := Lib.hid k3
            have HP9 := Lib.hid k4
            have Hs9 := Lib.hid (Nat.le_trans HC9.out.size (below_alloc w9 (.cells #[sv U[k].1, sv vv] 42)).size)
            clear k1 k2 k3 k4 hch htab
            obtain ⟨x4, x5, f5⟩ := HX9.out.cells
            have y4 := (two_cells HQ9.out).1
            have y6 := (two_cells ((kp_new (below_alloc w9 (.cells #[sv U[k].1, sv vv] 42)) Q).at_ HQ9.out)).1
            obtain ⟨x6, x7, f7⟩ := (AlB.kp HX9.out (kp_new (below_alloc w9 (.cells #[sv U[k].1, sv vv] 42)) n) (kp_new (below_alloc w9 (.cells #[sv U[k].1, sv vv] 42)) (n + 1))).cells
            dsimp only
            refine hK.out _ _ ⟨x4, y4⟩ (fun hHeld => ?_)
            clear hK K
            (try simp only [Act.put, List.setIfInBounds_toArray, List.set_cons_zero, List.set_cons_succ])
            refine wpAnyH_take (i := 9) (v := ?_) rfl (by kernel_rfl) (by kernel_rfl) (by kernel_rfl) (fun _ _ _ h => h) (Or.inl ⟨by rfl, ?_⟩) (by assumption) ?_
            rotate_left
            · intro w1 hSw
              (try dsimp only at hSw)
              go_simp
              (try with_reducible rfl)
            (try simp only [Act.put, List.setIfInBounds_toArray, List.set_cons_zero, List.set_cons_succ])
            refine wpAnyH_ready (rs := [10]) (by kernel_rfl) (by simp) ?_
            refine AllReadyH.cons rfl (fun K hK => ?_) AllReadyH.nil
            go_simp
            refine hK.out _ _ ⟨x6, y6⟩ (fun hHeld => ?_)
            clear hK K
            (try simp only [Act.put, List.setIfInBounds_toArray, List.set_cons_zero, List.set_cons_succ])
            refine wpAnyH_ready (rs := [11]) (by kernel_rfl) (by simp) ?_
            refine AllReadyH.cons rfl (fun K hK => ?_) AllReadyH.nil
            refine step_pushP (by rfl) _ _ (by rfl) (v := .slice Av ql.length cv) (by rfl) (POwn.alloc HP9.out _) w9.heap.size (U[k].1, vv) (by rfl) (two_new _ _ _ _).1 (two_new _ _ _ _).2 Hql.out Hs9.out ?_
            intro v1 w5 hown1 hg1 hat1
            obtain ⟨A2, c2, rfl⟩ := hown1.shape
            obtain ⟨k1, k2, k3, k4, k5, k6⟩ := all_push HT.out HX.out HE.out Hne.out HT9.out HX9.out HE9.out HP9.out hown1 hg1
            obtain ⟨z0, z1, zf⟩ := k1.cells
            have zq := (two_cells ((HQk.out _ _ _ hg1).at_ HQ9.out)).1
            have HT10 := Lib.hid k2
            have HX10 := Lib.hid k3
            have HE10 := Lib.hid k4
            have HP10 := Lib.hid k5
            have HC10 := Lib.hid k6
            refine hK.out _ _ ⟨z0, zq⟩ (fun hHeld => ?_)
            clear hK K
            (try simp only [Act.put, List.setIfInBounds_toArray, List.set_cons_zero, List.set_cons_succ])
            refine wpAnyH_ready (rs := [12]) (by kernel_rfl) (by simp) ?_
            refine AllReadyH.cons rfl (fun K hK => ?_) AllReadyH.nil
            go_simp
            refine hK.out _ _ ⟨by rw [World.cell?_setCell_far _ _ _ _ (show n + 1 ≠ n by omega)]; exact z0, by rw [World.cell?_setCell_far _ _ _ _ hQn2]; exact zq⟩ (fun hHeld => ?_)
            clear hK K
            (try simp only [Act.put, List.setIfInBounds_toArray, List.set_cons_zero, List.set_cons_succ])
            refine wpAnyH_done (by kernel_rfl) ?_ _
            have HC11 := Lib.hid (HC9.out.up HC10.out (by
              rintro k (rfl | e)
              · exact .inl (.inr rfl)
              · exact .inr e))
            have el : (ql ++ [(U[k].1, vv)]).length = ql.length + 1 := by simp
            rw [el] at HT10 HX10 HE10 HP10 HC11
            clear x0 x1 f1 y0 y1 x2 x3 f3 y2 y3 x4 x5 f5 y4 y6 x6 x7 f7 z0 z1 zf zq
            go_wp2
            go_roundw
            case rel => exact ⟨k + 1, dn, ql ++ [(U[k].1, vv)], _, by omega, by go_num, HT10, HX10, HP10, HE10, HC11, HR5, by simp; omega⟩
            case measure => simp [intOf]; omega
          · skip
            go_simp
            go_wp2_with fail
            rw [← Hwd.out]
            refine HV4.mono ?_
            intro e w9 ho
            obtain ⟨rfl, hvl, hch, htab⟩ := out_ok ho
            have HT9 := Lib.hid htab
            have HC9 := Lib.hid (HCd.out.trans (hch.imp fun _ _ e => .inl e))
            obtain ⟨k1, k2, k3, k4⟩ := all_keeps HTd.out hch HXe.out HQd2.out HEd.out HPd.out
            have HX9 := Lib.hid k1
            have HQ9 := Lib.hid k2
            have HE9 := Lib.hid k3
            have HP9 := Lib.hid k4
            have Hs9 := Lib.hid (Nat.le_trans HC9.out.size (below_alloc w9 (.cells #[sv U[k].1, sv vv] 42)).size)
            clear k1 k2 k3 k4 hch htab
            obtain ⟨x4, x5, f5⟩ := HX9.out.cells
            have y4 := (two_cells HQ9.out).1
            have y6 := (two_cells ((kp_new (below_alloc w9 (.cells #[sv U[k].1, sv vv] 42)) Q).at_ HQ9.out)).1
            obtain ⟨x6, x7, f7⟩ := (AlB.kp HX9.out (kp_new (below_alloc w9 (.cells #[sv U[k].1, sv vv] 42)) n) (kp_new (below_alloc w9 (.cells #[sv U[k].1, sv vv] 42)) (n + 1))).cells
            dsimp only
            refine hK.out _ _ ⟨x4, y4⟩ (fun hHeld => ?_)
            clear hK K
            (try simp only [Act.put, List.setIfInBounds_toArray, List.set_cons_zero, List.set_cons_succ])
            refine wpAnyH_take (i := 9) (v := ?_) rfl (by kernel_rfl) (by kernel_rfl) (by kernel_rfl) (fun _ _ _ h => h) (Or.inl ⟨by rfl, ?_⟩) (by assumption) ?_
            rotate_left
            · intro w1 hSw
              (try dsimp only at hSw)
              go_simp
              (try with_reducible rfl)
            (try simp only [Act.put, List.setIfInBounds_toArray, List.set_cons_zero, List.set_cons_succ])
            refine wpAnyH_ready (rs := [0, 10]) (by kernel_rfl) (by simp) ?_
            refine AllReadyH.cons rfl (fun K hK => ?_) (AllReadyH.cons rfl (fun K hK => ?_) AllReadyH.nil)
            · skip
              go_simp
              refine hK.out _ _ ⟨x4, y4⟩ (fun hHeld => ?_)
              clear hK K
              (try simp only [Act.put, List.setIfInBounds_toArray, List.set_cons_zero, List.set_cons_succ])
              refine wpAnyH_ready (rs := [10]) (by kernel_rfl) (by simp) ?_
              refine AllReadyH.cons rfl (fun K hK => ?_) AllReadyH.nil
              go_simp
              refine hK.out _ _ ⟨x6, y6⟩ (fun hHeld => ?_)
              clear hK K
              (try simp only [Act.put, List.setIfInBounds_toArray, List.set_cons_zero, List.set_cons_succ])
              refine wpAnyH_ready (rs := [11]) (by kernel_rfl) (by simp) ?_
              refine AllReadyH.cons rfl (fun K hK => ?_) AllReadyH.nil
              refine step_pushP (by rfl) _ _ (by rfl) (v := .slice Av ql.length cv) (by rfl) (POwn.alloc HP9.out _) w9.heap.size (U[k].1, vv) (by rfl) (two_new _ _ _ _).1 (two_new _ _ _ _).2 Hql.out Hs9.out ?_
              intro v1 w5 hown1 hg1 hat1
              obtain ⟨A2, c2, rfl⟩ := hown1.shape
              obtain ⟨k1, k2, k3, k4, k5, k6⟩ := all_push HT.out HX.out HE.out Hne.out HT9.out HX9.out HE9.out HP9.out hown1 hg1
              obtain ⟨z0, z1, zf⟩ := k1.cells
              have zq := (two_cells ((HQk.out _ _ _ hg1).at_ HQ9.out)).1
              have HT10 := Lib.hid k2
              have HX10 := Lib.hid k3
              have HE10 := Lib.hid k4
              have HP10 := Lib.hid k5
              have HC10 := Lib.hid k6
              refine hK.out _ _ ⟨z0, zq⟩ (fun hHeld => ?_)
              clear hK K
              (try simp only [Act.put, List.setIfInBounds_toArray, List.set_cons_zero, List.set_cons_succ])
              refine wpAnyH_ready (rs := [12]) (by kernel_rfl) (by simp) ?_
              refine AllReadyH.cons rfl (fun K hK => ?_) AllReadyH.nil
              go_simp
              refine hK.out _ _ ⟨by rw [World.cell?_setCell_far _ _ _ _ (show n + 1 ≠ n by omega)]; exact z0, by rw [World.cell?_setCell_far _ _ _ _ hQn2]; exact zq⟩ (fun hHeld => ?_)
              clear hK K
              (try simp only [Act.put, List.setIfInBounds_toArray, List.set_cons_zero, List.set_cons_succ])
              refine wpAnyH_done (by kernel_rfl) ?_ _
              have HC11 := Lib.hid (HC9.out.up HC10.out (by
                rintro k (rfl | e)
                · exact .inl (.inr rfl)
                · exact .inr e))
              have el : (ql ++ [(U[k].1, vv)]).length = ql.length + 1 := by simp
              rw [el] at HT10 HX10 HE10 HP10 HC11
              clear x0 x1 f1 y0 y1 x2 x3 f3 y2 y3 x4 x5 f5 y4 y6 x6 x7 f7 z0 z1 zf zq
              go_wp2
              go_roundw
              case rel => exact ⟨k + 1, dn, ql ++ [(U[k].1, vv)], _, by omega, by go_num, HT10, HX10, HP10, HE10, HC11, HR5, by simp; omega⟩
              case measure => simp [intOf]; omega
            · skip
              go_simp
              refine hK.out _ _ ⟨x6, y6⟩ (fun hHeld => ?_)
              clear hK K
              (try simp only [Act.put, List.setIfInBounds_toArray, List.set_cons_zero, List.set_cons_succ])
              refine wpAnyH_ready (rs := [0]) (by kernel_rfl) (by simp) ?_
              refine AllReadyH.cons rfl (fun K hK => ?_) AllReadyH.nil
              go_simp
              refine hK.out _ _ ⟨x6, y6⟩ (fun hHeld => ?_)
              clear hK K
              (try simp only [Act.put, List.setIfInBounds_toArray, List.set_cons_zero, List.set_cons_succ])
              refine wpAnyH_ready (rs := [11]) (by kernel_rfl) (by simp) ?_
              refine AllReadyH.cons rfl (fun K hK => ?_) AllReadyH.nil
              refine step_pushP (by rfl) _ _ (by rfl) (v := .slice Av ql.length cv) (by rfl) (POwn.alloc HP9.out _) w9.heap.size (U[k].1, vv) (by rfl) (two_new _ _ _ _).1 (two_new _ _ _ _).2 Hql.out Hs9.out ?_
              intro v1 w5 hown1 hg1 hat1
              obtain ⟨A2, c2, rfl⟩ := hown1.shape
              obtain ⟨k1, k2, k3, k4, k5, k6⟩ := all_push HT.out HX.out HE.out Hne.out HT9.out HX9.out HE9.out HP9.out hown1 hg1
              obtain ⟨z0, z1, zf⟩ := k1.cells
              have zq := (two_cells ((HQk.out _ _ _ hg1).at_ HQ9.out)).1
              have HT10 := Lib.hid k2
              have HX10 := Lib.hid k3
              have HE10 := Lib.hid k4
              have HP10 := Lib.hid k5
              have HC10 := Lib.hid k6
              refine hK.out _ _ ⟨z0, zq⟩ (fun hHeld => ?_)
              clear hK K
              (try simp only [Act.put, List.setIfInBounds_toArray, List.set_cons_zero, List.set_cons_succ])
              refine wpAnyH_ready (rs := [12]) (by kernel_rfl) (by simp) ?_
              refine AllReadyH.cons rfl (fun K hK => ?_) AllReadyH.nil
              go_simp
              refine hK.out _ _ ⟨by rw [World.cell?_setCell_far _ _ _ _ (show n + 1 ≠ n by omega)]; exact z0, by rw [World.cell?_setCell_far _ _ _ _ hQn2]; exact zq⟩ (fun hHeld => ?_)
              clear hK K
              (try simp only [Act.put, List.setIfInBounds_toArray, List.set_cons_zero, List.set_cons_succ])
              refine wpAnyH_done (by kernel_rfl) ?_ _
              have HC11 := Lib.hid (HC9.out.up HC10.out (by
                rintro k (rfl | e)
                · exact .inl (.inr rfl)
                · exact .inr e))
              have el : (ql ++ [(U[k].1, vv)]).length = ql.length + 1 := by simp
              rw [el] at HT10 HX10 HE10 HP10 HC11
              clear x0 x1 f1 y0 y1 x2 x3 f3 y2 y3 x4 x5 f5 y4 y6 x6 x7 f7 z0 z1 zf zq
              go_wp2
              go_roundw
              case rel => exact ⟨k + 1, dn, ql ++ [(U[k].1, vv)], _, by omega, by go_num, HT10, HX10, HP10, HE10, HC11, HR5, by simp; omega⟩
              case measure => simp [intOf]; omega
    · obtain rfl : k = U.length := by omega
      have HE4 := HR3.out
      rw [List.drop_length] at HE4; dsimp only [allP] at HE4
      go_wp2
      go_end0
      rw [HE4]
      exact ⟨rfl, HE3.out, HT3.out, ⟨v, HX3.out, HP3.out⟩, HC3.out⟩
end Go.Proofs.Ytpgdioopkcfjdaa
