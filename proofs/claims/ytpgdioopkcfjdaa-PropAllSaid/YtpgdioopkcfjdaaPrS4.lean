/- The reference's All. -/
import Derived.Test.YtpgdioopkcfjdaaPrS3
import Derived.Test.YtpgdioopkcfjdaaPrD11
namespace Go.Proofs.Ytpgdioopkcfjdaa
open Go.RowKit

def allE (R : Option (Int × Bs) × PL × PL) : Int := match R.1 with | none => 0 | some c => c.1
def allN (R : Option (Int × Bs) × PL × PL) : Bs := match R.1 with | none => [] | some c => c.2
def allL (R : Option (Int × Bs) × PL × PL) : PL := match R.1 with | none => R.2.1 | some _ => []
theorem look_self {L : PL} {k : Nat} (hk : k < L.length) : (lookP L L[k].1).isSome = true := by
  unfold lookP
  rw [Option.isSome_map, List.find?_isSome]
  exact ⟨L[k], List.getElem_mem hk, by simp⟩
theorem allP_skip {L : PL} {k : Nat} {D ql : PL} (hk : k < L.length) (h : (lookP (L.take k) L[k].1).isSome = true) : allP L (uq (L.take k) (L.drop k)) D ql = allP L (uq (L.take (k + 1)) (L.drop (k + 1))) D ql := by
  rw [uq_at hk, if_pos h]
theorem allP_go {L : PL} {k : Nat} {D ql : PL} (hk : k < L.length) (h : (lookP (L.take k) L[k].1).isSome = false) : allP L (uq (L.take k) (L.drop k)) D ql = (match valP L 32 [] D L[k].1 with
    | (.ok v, done') => allP L (uq (L.take (k + 1)) (L.drop (k + 1))) done' (ql ++ [(L[k].1, v)])
    | (.loop n, done') => (some (22, n), ql, done')
    | (.big n, done') => (some (2, n), ql, done')) := by
  rw [uq_at hk, if_neg (by rw [h]; decide)]
  rfl
theorem uq_len : ∀ (R s : PL), (uq s R).length ≤ R.length
  | [], _ => by simp [uq]
  | p :: R, s => by
    have := uq_len R (s ++ [p])
    unfold uq
    split
    · simp; omega
    · simp; omega
abbrev NoB : Nat → Prop := fun _ => False
theorem RefAt.free {KP : Nat → Prop} {KW w : World} {B X : Nat} {lv dv ov : Value} {L done : PL} {bad : Int} {nm : Bs} {way : List Bs} (h : RefAt KP KW w B X lv L dv done bad nm ov way) : RefAt NoB w w B X lv L dv done bad nm ov way :=
  h.hold NoB (fun _ e => e.elim) ⟨fun e => e, fun _ _ e => e, fun _ _ e => e⟩
theorem RefAt.pushQ {KP : Nat → Prop} {KW w w5 : World} {B X : Nat} {lv dv ov qv qv' : Value} {L done ql : PL} {bad : Int} {nm : Bs} {way : List Bs} (h : RefAt KP KW w B X lv L dv done bad nm ov way) (hq : POwn w B qv ql) (hs : ∀ g, dv.ownBlock = some g → ¬ qv.ownBlock = some g) {t : TypeId} {p : Bs × Bs} (hg : (w.alloc (.cells #[sv p.1, sv p.2] t)).grownBy w5 qv.ownBlock) (hat : qv'.ownBlock = qv.ownBlock ∨ qv'.ownBlock = some (w.alloc (.cells #[sv p.1, sv p.2] t)).heap.size) :
    RefAt NoB w5 w5 B X lv L dv done bad nm ov way ∧ Below B w w5 ∧ ∀ g, dv.ownBlock = some g → ¬ qv'.ownBlock = some g := by
  have hb : Below B w w5 := ((below_alloc w (.cells #[sv p.1, sv p.2] t)).mono h.size).grown hg (by simp; have := h.size; omega) (fun g hg => (POwn.lt hq g hg).1)
  have c1 : Ch (fun k => some k = qv.ownBlock) w w5 := (ch_new (below_alloc w (.cells #[sv p.1, sv p.2] t)) _).trans (ch_grown hg)
  refine ⟨RefAt.free (h.free.kp hb (c1.kp fun e => h.ndv hq e.symm rfl) (fun g hg => c1.kp fun e => hs g hg e.symm) (fun g hg => c1.kp fun e => ?_) (fun _ e => e.elim)), hb, ?_⟩
  · obtain ⟨c, h3⟩ := own_obj h.own hg
    obtain ⟨c', h4⟩ := own_obj hq e.symm
    rw [h3] at h4
    simp at h4
  · intro g hg1 hg2
    rcases hat with e | e
    · exact hs g hg1 (e ▸ hg2)
    · rw [hg2] at e
      have := (POwn.lt h.done g hg1).2
      simp at e
      omega
theorem RefAt.call {w wr : World} {X Q : Nat} {lv dv ov qv : Value} {L done ql : PL} {way : List Bs} (h : RefAt NoB wr w X X lv L dv done 0 [] ov way) (hq : POwn w X qv ql) (hs : ∀ g, dv.ownBlock = some g → ¬ qv.ownBlock = some g) (hQ : ∀ g, dv.ownBlock = some g → ¬ g = Q) (hX : ¬ X = Q) (hlt : Q < w.heap.size) :
    RefAt (fun k => k = Q ∨ qv.ownBlock = some k) (w.setCell ⟨X, 5, none⟩ (.slice none 0 0)) (w.setCell ⟨X, 5, none⟩ (.slice none 0 0)) X X lv L dv done 0 [] (.slice none 0 0) [] ∧ Below X w (w.setCell ⟨X, 5, none⟩ (.slice none 0 0)) ∧ POwn (w.setCell ⟨X, 5, none⟩ (.slice none 0 0)) X qv ql := by
  obtain ⟨h1, b1⟩ := h.put (bad' := 0) (nm' := []) (dv' := dv) (ov' := .slice none 0 0) (way' := []) 5 (.slice none 0 0) rfl h.done ⟨rfl, .inl ⟨rfl, rfl⟩⟩
  refine ⟨h1.hold _ ?_ ⟨?_, ?_, fun g e => by cases e⟩, b1, own_kp hq fun g hg => (ch_set w X 5 _).kp (h.ndv hq hg)⟩
  · rintro k (rfl | e)
    · exact Nat.lt_of_lt_of_le hlt b1.size
    · exact Nat.lt_of_lt_of_le (hq.lt k e).2 b1.size
  · rintro (e | e)
    · exact hX e
    · exact h.ndv hq e rfl
  · rintro g hg (e | e)
    · exact hQ g hg e
    · exact hs g hg e
set_option maxRecDepth 100000 in
set_option maxHeartbeats 8000000 in
theorem refAll_any {X : Nat} {lv : Value} {L : PL} (hL : ∀ p ∈ L, p.2.length ≤ 1000000) (hN : ∀ p ∈ L, p.1.length ≤ 1000000) (hll : L.length ≤ 1000) (done : PL) (w : World) (dv ov : Value) (bad : Int) (nm : Bs) (way : List Bs) (hr : RefAt NoB w w X X lv L dv done bad nm ov way) (hdn : DoneOK L done) :
    Calls Try.prog 23 #[.pointer (some ⟨X, 0, none⟩)] w fun e w' => ∃ v, e = .returned (.tuple #[v, .int .i64 (allE (allP L (uq [] L) done [])), sv (allN (allP L (uq [] L) done []))]) ∧ POwn w' X v (allL (allP L (uq [] L) done [])) ∧ Below X w w' := by
  obtain ⟨R, hR⟩ : ∃ R, R = allP L (uq [] L) done [] := ⟨_, rfl⟩
  rw [← hR]
  obtain ⟨h1, b1⟩ := hr.put (bad' := 0) (nm' := nm) (dv' := dv) (ov' := ov) 2 (.int .i64 0) rfl hr.done hr.own
  obtain ⟨h2, b2⟩ := h1.put (bad' := 0) (nm' := []) (dv' := dv) (ov' := ov) 3 (sv []) rfl h1.done h1.own
  have HR2 := Lib.hid h2
  have HB2 := Lib.hid (b1.trans b2)
  have HR := Lib.hid hR
  have HD := Lib.hid hdn
  have HV := Lib.hid (fun (KP : Nat → Prop) (KW : World) => rval (KP := KP) (KW := KW) (B := X) (X := X) (lv := lv) hL hll 32)
  have HN := Lib.hid hN
  obtain ⟨-, -, k2, k3, k5, kf⟩ := hr.cells
  obtain ⟨A, c, rfl, hmL, -⟩ := hr.props.open_
  have k0 := h2.cells.1
  have c0 : (⟨#[]⟩ : ByteArray) = bz [] := rfl
  clear h1 h2 b1 b2 hr hdn hR hL hN
  go_enter Try.func23, Try.ntmps23
  go_wp2
  obtain ⟨w2, hw2⟩ : ∃ w2, w2 = (w.setCell ⟨X, 2, none⟩ (.int .i64 0)).setCell ⟨X, 3, none⟩ (sv []) := ⟨_, rfl⟩
  rw [← hw2] at HR2 HB2 ⊢
  clear hw2 c0 k0 k2 k3 k5 kf
  go_loopw [20, 5] (fun kv qv wr => ∃ (k : Nat) (D : PL) (ql : PL) (dv ov : Value) (way : List Bs), k ≤ L.length ∧ kv = .int .i64 k ∧ Hid (RefAt NoB wr wr X X (.slice A L.length c) L dv D 0 [] ov way) ∧ Hid (POwn wr X qv ql) ∧ Hid (∀ g, dv.ownBlock = some g → ¬ qv.ownBlock = some g) ∧ Hid (DoneOK L D) ∧ Hid (Below X w wr) ∧ Hid (R = allP L (uq (L.take k) (L.drop k)) D ql) ∧ ql.length ≤ k) (fun kv _ _ => L.length - (intOf kv).toNat)
  case atStart => exact ⟨0, done, [], _, _, _, Nat.zero_le _, rfl, Lib.hid HR2.out.free, Lib.hid (POwn.nil _ _), Lib.hid (fun _ _ e => by cases e), HD, HB2, HR, by simp⟩
  case round =>
    obtain ⟨k, D, ql, dv, ov, way, hkle, rfl, HR3, HP3, HS3, HD3, HB3, HE3, hql⟩ := hrel
    have c0 : (⟨#[]⟩ : ByteArray) = bz [] := rfl
    rcases Nat.lt_or_ge k L.length with hk | hk
    · obtain ⟨A9, c9, e9, -, hat9⟩ := HR3.out.props.open_
      injection e9 with e9 _ e10
      subst e9
      subst e10
      obtain ⟨b9, off9, rfl, hb9, d0, d1⟩ := prop_cells hat9 hk
      clear hat9
      obtain ⟨Q, hQ⟩ : ∃ Q, Q = wr.heap.size := ⟨_, rfl⟩
      obtain ⟨wx, hwx⟩ : ∃ wx, wx = wr.alloc (.cells #[sv L[k].1, sv L[k].2] 42) := ⟨_, rfl⟩
      have hbx : wx.heap[Q]? = some (.cells #[sv L[k].1, sv L[k].2] 42 (0, 0)) := by rw [hwx, hQ]; exact heap_alloc_new wr _
      have HRx := Lib.hid (show RefAt NoB wr wx X X (.slice (some ⟨b9, off9, none⟩) L.length c) L dv D 0 [] ov way by rw [hwx]; exact HR3.out.new (below_alloc _ _))
      have HPx := Lib.hid (show POwn wx X u5 ql by rw [hwx]; exact own_kp HP3.out fun _ _ => kp_new (below_alloc _ _) _)
      have HBx := Lib.hid (show Below X w wx by rw [hwx]; exact HB3.out.alloc HR3.out.size _)
      obtain ⟨x0, x1⟩ := two_cells hbx
      have HQ := Lib.hid hbx
      have Hwx := Lib.hid hwx
      have HA := Lib.hid (fun w' (hb : Below wx.heap.size wx w') => At_any (.slice (some ⟨b9, off9, none⟩) L.length c) L L[k].1 w' (RProps.stable.sub (HRx.out.new hb).props fun b hb2 => Nat.lt_of_lt_of_le hb2 (HRx.out.new hb).size))
      have m0 := HRx.out.cells.1
      have HQe := Lib.hid hQ
      clear hwx hbx
      rcases idx_first hk with ⟨hne, hsm⟩ | ⟨hne, hsm⟩
      · have HE4 := Lib.hid (HE3.out.trans (allP_skip hk hsm))
        clear hsm
        go_wp2
        rw [← hQ, ← Hwx.out]
        clear hQ
        go_region_law (
             go_simp
             go_at_call 19
             refine (HA.out _ (Below.refl _ _).drew).mono ?_
             rintro e w7 ⟨rfl, h1⟩
             have HR7 := Lib.hid (HRx.out.new ((Below.refl _ _).drew.trans (h1.mono (Nat.le_refl _))))
             have HB7 := Lib.hid (HBx.out.trans (((Below.refl _ _).drew.trans (h1.mono (Nat.le_refl _))).mono HRx.out.size))
             have HY7 := Lib.hid ((Below.refl wx.heap.size wx).drew.trans (h1.mono (Nat.le_refl _)))
             clear h1)
        all_goals
          go_wp2
          go_roundw
          case rel => exact ⟨k + 1, D, ql, _, _, _, by omega, by go_num, Lib.hid HR7.out.free, Lib.hid (own_kp HPx.out fun _ _ => kp_new HY7.out _), HS3, HD3, HB7, HE4, by omega⟩
          case measure => simp [intOf]; omega
      · have hl2 := look_self hk
        have hwn : WayOK [] D := fun _ h => by cases h
        have hnl := HN.out L[k] (List.getElem_mem hk)
        cases hv : valP L 32 [] D L[k].1 with
        | mk x dn =>
        have Hd2 := Lib.hid (show DoneOK L dn by have := valP_doneOK (L := L) 32 [] D L[k].1 (fun _ h => by cases h) HD3.out hl2; rwa [hv] at this)
        have HE4 := HE3.out.trans (allP_go hk hsm)
        rw [hv] at HE4
        have Hv := Lib.hid hv
        have HE5 := Lib.hid HE4
        clear hsm hv HE4
        go_wp2
        rw [← hQ, ← Hwx.out]
        clear hQ
        go_region_law (
             go_simp
             go_at_call 19
             refine (HA.out _ (Below.refl _ _).drew).mono ?_
             rintro e w7 ⟨rfl, h1⟩
             have HR7 := Lib.hid (HRx.out.new ((Below.refl _ _).drew.trans (h1.mono (Nat.le_refl _))))
             have HB7 := Lib.hid (HBx.out.trans (((Below.refl _ _).drew.trans (h1.mono (Nat.le_refl _))).mono HRx.out.size))
             have HQ7 := Lib.hid ((kp_new ((Below.refl _ _).drew.trans (h1.mono (Nat.le_refl _))) _).at_ HQ.out)
             have HY7 := Lib.hid ((Below.refl wx.heap.size wx).drew.trans (h1.mono (Nat.le_refl _)))
             clear h1)
        all_goals
          obtain ⟨y0, y1⟩ := two_cells HQ7.out
          clear x0 x1 m0 d0 d1
          have HP7 := Lib.hid (show POwn w7 X u5 ql from own_kp HPx.out fun _ _ => kp_new HY7.out _)
          obtain ⟨m0, -, m2, m3, m5, mf⟩ := HR7.out.cells
          have hc8 := RefAt.call HR7.out HP7.out HS3.out (Q := Q) (fun g hg e => by have := (HR3.out.done.lt g hg).2; have := HQe.out; omega) (by have := HR3.out.lt; have := HQe.out; omega) (Array.getElem?_eq_some_iff.1 HQ7.out).1
          have hXQ : ¬ Q = X := by have := HR3.out.lt; have := HQe.out; omega
          have HQ8 := Lib.hid (((ch_set w7 X 5 (.slice none 0 0)).kp hXQ).at_ HQ7.out)
          obtain ⟨hr8, hb8, hp8⟩ := hc8
          have HR8 := Lib.hid hr8
          have HB8 := Lib.hid (HB7.out.trans hb8)
          have HP8 := Lib.hid hp8
          have z0 : (w7.setCell ⟨X, 5, none⟩ (.slice none 0 0)).cell? ⟨Q, 0, none⟩ = some (sv L[k].1) := (two_cells HQ8.out).1
          clear hr8 hb8 hp8
          cases x with
          | loop m =>
            have c1 : ((22 : Int) != 0) = true := rfl
            go_wp2_with fail
            (with_reducible refine (HV.out _ _ [] D L[k].1 _ dv _ rfl hl2 hwn HD3.out HR8.out hnl).mono ?_)
            intro e w9 ho;  rw [Hv.out] at ho; obtain ⟨y, dv9, ov9, way9, rfl, hyl, h1, h2, h3⟩ := ho; (have HR9 := Lib.hid (show RefAt _ _ w9 X X _ L dv9 dn 22 m ov9 way9 from h1); have HB9 := Lib.hid (HB8.out.trans h2); have HR9v := h3; have HQ9 := Lib.hid ((h1.stays (.inl rfl)).at_ HQ8.out); have HP9 := Lib.hid (show POwn w9 X u5 ql from own_kp HP8.out fun g hg => h1.stays (.inr hg)); have HS9 := Lib.hid (show ∀ g, dv9.ownBlock = some g → ¬ u5.ownBlock = some g from fun g hg e => h1.sep.2.1 g hg (.inr e)); obtain ⟨y0, y1⟩ := two_cells HQ9.out; obtain ⟨m0, -, m2, m3, m5, mf⟩ := HR9.out.cells; clear h1 h2 h3)
            go_wp2
            go_region
            go_wp2
            go_ret3
            have e1 : R = (some (22, m), ql, dn) := HE5.out
            exact ⟨.slice none 0 0, by rw [e1]; rfl, by rw [e1]; exact POwn.nil _ _, HB9.out.drew⟩
          | big m =>
            have c1 : ((2 : Int) != 0) = true := rfl
            go_wp2_with fail
            (with_reducible refine (HV.out _ _ [] D L[k].1 _ dv _ rfl hl2 hwn HD3.out HR8.out hnl).mono ?_)
            intro e w9 ho;  rw [Hv.out] at ho; obtain ⟨y, dv9, ov9, way9, rfl, hyl, h1, h2, h3⟩ := ho; (have HR9 := Lib.hid (show RefAt _ _ w9 X X _ L dv9 dn 2 m ov9 way9 from h1); have HB9 := Lib.hid (HB8.out.trans h2); have HR9v := h3; have HQ9 := Lib.hid ((h1.stays (.inl rfl)).at_ HQ8.out); have HP9 := Lib.hid (show POwn w9 X u5 ql from own_kp HP8.out fun g hg => h1.stays (.inr hg)); have HS9 := Lib.hid (show ∀ g, dv9.ownBlock = some g → ¬ u5.ownBlock = some g from fun g hg e => h1.sep.2.1 g hg (.inr e)); obtain ⟨y0, y1⟩ := two_cells HQ9.out; obtain ⟨m0, -, m2, m3, m5, mf⟩ := HR9.out.cells; clear h1 h2 h3)
            go_wp2
            go_region
            go_wp2
            go_ret3
            have e1 : R = (some (2, m), ql, dn) := HE5.out
            exact ⟨.slice none 0 0, by rw [e1]; rfl, by rw [e1]; exact POwn.nil _ _, HB9.out.drew⟩
          | ok v =>
            have c1 : ((0 : Int) != 0) = false := rfl
            go_wp2_with fail
            (with_reducible refine (HV.out _ _ [] D L[k].1 _ dv _ rfl hl2 hwn HD3.out HR8.out hnl).mono ?_)
            intro e w9 ho;  rw [Hv.out] at ho; obtain ⟨y, dv9, ov9, way9, rfl, hyl, h1, h2, h3⟩ := ho; (have HR9 := Lib.hid (show RefAt _ _ w9 X X _ L dv9 dn 0 [] ov9 way9 from h1); have HB9 := Lib.hid (HB8.out.trans h2); have HR9v := h3; have HQ9 := Lib.hid ((h1.stays (.inl rfl)).at_ HQ8.out); have HP9 := Lib.hid (show POwn w9 X u5 ql from own_kp HP8.out fun g hg => h1.stays (.inr hg)); have HS9 := Lib.hid (show ∀ g, dv9.ownBlock = some g → ¬ u5.ownBlock = some g from fun g hg e => h1.sep.2.1 g hg (.inr e)); obtain ⟨y0, y1⟩ := two_cells HQ9.out; obtain ⟨m0, -, m2, m3, m5, mf⟩ := HR9.out.cells; clear h1 h2 h3)
            obtain rfl : v = y := (HR9v v rfl).1
            go_wp2_with (at_builtin; refine wpList_pushP rfl _ _ rfl (v := u5) rfl (HP9.out.alloc _) w9.heap.size (L[k].1, v) rfl (two_new _ _ _ _).1 (two_new _ _ _ _).2 (by omega) (by have := HR9.out.size; simp; omega) ?_; intro v10 w10 hown10 hg10 hat10; (obtain ⟨q1, q2, q3⟩ := HR9.out.pushQ HP9.out HS9.out (p := (L[k].1, v)) hg10 hat10; have HR10 := Lib.hid q1; have HB10 := Lib.hid (HB9.out.trans q2); have HS10 := Lib.hid q3; have HP10 := Lib.hid hown10; clear q1 q2 q3 hown10 hg10 hat10))
            go_roundw
            case rel => exact ⟨k + 1, dn, ql ++ [(L[k].1, v)], _, _, _, by omega, by go_num, HR10, HP10, HS10, Hd2, HB10, HE5, by simp; omega⟩
            case measure => simp [intOf]; omega
    · obtain rfl : k = L.length := by omega
      have HE4 := HE3.out
      rw [List.take_length, List.drop_length] at HE4; dsimp only [uq, allP] at HE4
      go_wp2
      go_ret3
      have e1 : R = (none, ql, D) := by rw [HE4]
      exact ⟨u5, by rw [e1]; rfl, by rw [e1]; exact HP3.out, HB3.out⟩
end Go.Proofs.Ytpgdioopkcfjdaa
