/- The reference's text, given what its value does. -/
import Derived.Test.YtpgdioopkcfjdaaPrS1
import Derived.Test.YtpgdioopkcfjdaaPrD10
import Derived.Test.YtpgdioopkcfjdaaPrK5
namespace Go.Proofs.Ytpgdioopkcfjdaa
open Go.RowKit

def ROut (KP : Nat → Prop) (KW : World) (B X : Nat) (lv : Value) (L : PL) (way : List Bs) (w : World) (r : Ans × PL) (e : Ending) (w' : World) : Prop :=
  ∃ y dv ov way', e = .returned (sv y) ∧ y.length ≤ 2000000 ∧ RefAt KP KW w' B X lv L dv r.2 (errOf r.1) (nmOf r.1) ov way' ∧ Below B w w' ∧ ∀ v, r.1 = .ok v → v = y ∧ way = way'
abbrev RVal (KP : Nat → Prop) (KW : World) (B X : Nat) (lv : Value) (L : PL) (d : Nat) : Prop := ∀ (way : List Bs) (done : PL) (n : Bs) (w : World) (dv ov : Value), way.length + d = 32 → (lookP L n).isSome = true → WayOK way done → DoneOK L done →
  RefAt KP KW w B X lv L dv done 0 [] ov way → n.length ≤ 1000000 →
  Calls Try.prog 38 #[.pointer (some ⟨X, 0, none⟩), sv n] w (ROut KP KW B X lv L way w (valP L d way done n))
/-- what stands between the rounds -/
def TxS (L : PL) (d : Nat) (way : List Bs) (me : Bs) (R : Ans × PL) (D : PL) (acc rest : Bs) (bad : Int) (nm : Bs) (way' : List Bs) : Prop :=
  (bad = 0 ∧ nm = [] ∧ way = way' ∧ acc.length ≤ 4096 ∧ WayOK way D ∧ DoneOK L D ∧ R = txtP (fun done m => valP L d way done m) L me D acc rest) ∨ (bad ≠ 0 ∧ R.2 = D ∧ notOk R.1 ∧ bad = errOf R.1 ∧ nm = nmOf R.1)
theorem cut_ahead {s a n r : Bs} (h : cutP s = some (a, n, r)) : (bz s).extract 0 a.length = bz a := by
  rw [bz_ext, cutP_eq h]; simp
theorem concatN (a b : Bs) (ha : a.length ≤ 5000000) (hb : b.length ≤ 5000000) (w : World) : (Op.stringOp .add (bz a) (bz b)).run Try.prog w = .ok (sv (a ++ b)) w :=
  (run_string_add_sum (P := Try.prog) (w := w) (bz a) (bz b) (by rw [bz_size, bz_size]; omega)).trans (by rw [bz_append])
set_option maxRecDepth 100000 in
set_option maxHeartbeats 4000000 in
theorem text_ref {KP : Nat → Prop} {KW : World} {B X : Nat} {lv : Value} {L : PL} {d : Nat} (hV : RVal KP KW B X lv L d) (way : List Bs) (done : PL) (s me : Bs) (w : World) (dv ov : Value) (hwd : way.length + d = 32) (hk : WayOK way done) (hdn : DoneOK L done) (hr : RefAt KP KW w B X lv L dv done 0 [] ov way) (hs : s.length ≤ 1000000) :
    Calls Try.prog 32 #[.pointer (some ⟨X, 0, none⟩), sv s, sv me] w (ROut KP KW B X lv L way w (txtP (fun done m => valP L d way done m) L me done [] s)) := by
  obtain ⟨R, hR⟩ : ∃ R, R = txtP (fun done m => valP L d way done m) L me done [] s := ⟨_, rfl⟩
  rw [← hR]
  have H0 := Lib.hid (show TxS L d way me R done [] s 0 [] way from .inl ⟨rfl, rfl, rfl, by simp, hk, hdn, hR⟩)
  have HR0 := Lib.hid hr
  have HV := Lib.hid hV
  have c0 : (⟨#[]⟩ : ByteArray) = bz [] := rfl
  have hlo := hr.size
  clear hR hr hk hdn hV
  go_enter Try.func32, Try.ntmps32
  go_wp2
  clear c0
  go_loopw [1, 7] (fun rv av wr => ∃ acc rest D bad nm dv' ov' way', rv = sv rest ∧ av = sv acc ∧ Hid (RefAt KP KW wr B X lv L dv' D bad nm ov' way') ∧ Hid (Below B w wr) ∧ rest.length ≤ 1000000 ∧ Hid (TxS L d way me R D acc rest bad nm way')) (fun rv _ _ => strLen rv)
  case atStart => exact ⟨[], s, done, 0, [], dv, ov, way, rfl, rfl, HR0, Lib.hid (Below.refl _ _), hs, H0⟩
  case round =>
    obtain ⟨acc, rest, D, bad, nm, dv', ov', way', rfl, rfl, HR, HB, hrl, HS⟩ := hrel
    obtain ⟨k0, -, k2, -, -, -⟩ := HR.out.cells
    have c0 : (⟨#[]⟩ : ByteArray) = bz [] := rfl
    rcases HS.out with ⟨rfl, rfl, rfl, hacc, hway, hdn, hR⟩ | ⟨hb, hD, hno, rfl, rfl⟩
    · have Hc := Lib.hid (Ref_any rest wr hrl)
      cases hc : cutP rest with
      | none =>
        rw [hc] at Hc
        have hrs := bz_size rest
        have cat := concatN acc rest (by omega) (by omega)
        have hpl : (acc ++ rest).length ≤ 2000000 := by rw [List.length_append]; omega
        by_cases hg : 4096 < (acc ++ rest).length
        · have Hres := Lib.hid (show R = (.big me, D) from hR.trans (by rw [txtP_none hc, if_pos hg]))
          clear hR hc hway hdn
          generalize acc ++ rest = P at cat Hres hg hpl
          have z1 : (4096 : Int) < (((bz P).size : Nat) : Int) := by rw [bz_size]; omega
          have z2 := decide_eq_true z1
          go_wp2_with (first
            | (go_at_call 34; with_reducible refine Hc.out.mono ?_; rintro e w1 ⟨rfl, nd, rfl⟩; dsimp only [refV]; (have HR1 := Lib.hid (HR.out.new (below_drewN (Below.refl _ _) nd)); have HB1 := Lib.hid (below_drewN HB.out nd)))
            | (go_at_call 46; with_reducible refine (fail_any 2 me HR1.out).mono ?_; rintro e w2 ⟨rfl, h1, h2⟩; (have HR2 := Lib.hid h1; have HB2 := Lib.hid (HB1.out.trans h2); clear h1 h2)))
          go_ret
          exact ⟨P, dv', ov', way, rfl, hpl, by rw [Hres.out]; exact HR2.out, HB2.out, fun v hv => by rw [Hres.out] at hv; cases hv⟩
        · have Hres := Lib.hid (show R = (.ok (acc ++ rest), D) from hR.trans (by rw [txtP_none hc, if_neg hg]))
          clear hR hc hway hdn
          generalize acc ++ rest = P at cat Hres hg hpl
          have z1 : ¬ (4096 : Int) < (((bz P).size : Nat) : Int) := by rw [bz_size]; omega
          have z2 := decide_eq_false z1
          go_wp2_with (first
            | (go_at_call 34; with_reducible refine Hc.out.mono ?_; rintro e w1 ⟨rfl, nd, rfl⟩; dsimp only [refV]; (have HR1 := Lib.hid (HR.out.new (below_drewN (Below.refl _ _) nd)); have HB1 := Lib.hid (below_drewN HB.out nd))))
          go_ret
          exact ⟨P, dv', ov', way, rfl, hpl, by rw [Hres.out]; exact HR1.out, HB1.out, fun v hv => by rw [Hres.out] at hv; cases hv; exact ⟨rfl, rfl⟩⟩
      | some x =>
        obtain ⟨a, n, r⟩ := x
        rw [hc] at Hc
        have hrs := bz_size rest
        have hns := bz_size n
        have hle := cutP_len hc
        have Hlt := Lib.hid (cutP_lt hc)
        have hrl2 : r.length ≤ 1000000 := by have := cutP_lt hc; omega
        have hnl : n.length ≤ 1000000 := by omega
        have Hx := Lib.hid (show (bz rest).extract (a.length + n.length + 3) rest.length = bz r from cutP_rest hc)
        have hx0 := cut_ahead hc
        have b4 : a.length + n.length + 3 ≤ rest.length := by omega
        have cat := concatN acc a (by omega) (by omega)
        have Hway := Lib.hid hway
        have Hdn := Lib.hid hdn
        by_cases hg : 4096 < (acc ++ a).length
        · have Hres := Lib.hid (show R = (.big me, D) from hR.trans (txtP_b1 hc hg))
          clear hR hc hway hdn
          generalize acc ++ a = P at cat Hres hg
          have z1 : (4096 : Int) < (((bz P).size : Nat) : Int) := by rw [bz_size]; omega
          have z2 := decide_eq_true z1
          go_wp2_with (first
            | (go_at_call 34; with_reducible refine Hc.out.mono ?_; rintro e w1 ⟨rfl, nd, rfl⟩; dsimp only [refV]; (have HR1 := Lib.hid (HR.out.new (below_drewN (Below.refl _ _) nd)); have HB1 := Lib.hid (below_drewN HB.out nd)))
            | (go_at_call 46; with_reducible refine (fail_any 2 me HR1.out).mono ?_; rintro e w2 ⟨rfl, h1, h2⟩; (have HR2 := Lib.hid h1; have HB2 := Lib.hid (HB1.out.trans h2); clear h1 h2)))
          go_ret
          exact ⟨[], dv', ov', way, rfl, by simp, by rw [Hres.out]; exact HR2.out, HB2.out, fun v hv => by rw [Hres.out] at hv; cases hv⟩
        · have hpl : (acc ++ a).length ≤ 4096 := by omega
          have hi := idxP_known L n
          cases hl : (lookP L n).isSome with
          | true =>
            rw [hl] at hi
            have hi2 : (0 : Int) ≤ idxP L n := of_decide_eq_true hi
            cases hv : valP L d way D n with
            | mk x dn =>
              have Hk2 := Lib.hid (show WayOK way dn by have := valP_way (L := L) d way D n hway; rwa [hv] at this)
              have Hd2 := Lib.hid (show DoneOK L dn by have := valP_doneOK (L := L) d way D n hway hdn hl; rwa [hv] at this)
              have Hv := Lib.hid hv
              cases x with
              | loop n2 =>
                have Hres := Lib.hid (show R = (.loop n2, dn) from hR.trans (txtP_vl hc hg hl hv))
                clear hR hc hway hdn hv
                generalize acc ++ a = P at cat Hres hg hpl
                have z1 : ¬ (4096 : Int) < (((bz P).size : Nat) : Int) := by rw [bz_size]; omega
                have z2 := decide_eq_false z1
                have cat2 := fun y (h : y.length ≤ 5000000) => concatN P y (by omega) h
                go_wp2_with (first
                  | (go_at_call 34; with_reducible refine Hc.out.mono ?_; rintro e w1 ⟨rfl, nd, rfl⟩; dsimp only [refV]; (have HR1 := Lib.hid (HR.out.new (below_drewN (Below.refl _ _) nd)); have HB1 := Lib.hid (below_drewN HB.out nd)))
                  | (go_at_call 19; with_reducible refine (At_any lv L n _ (RProps.stable.sub HR1.out.props fun b hb => Nat.lt_of_lt_of_le hb HR1.out.size)).mono ?_; rintro e w3 ⟨rfl, h2⟩; (have HR3 := Lib.hid (HR1.out.new h2); have HB3 := Lib.hid (HB1.out.trans (h2.mono HR1.out.size)); obtain ⟨q0, -, q2, -, -, -⟩ := HR3.out.cells; clear h2))
                  | (go_at_call 38; (with_reducible refine (HV.out way D n w3 dv' ov' hwd hl Hway.out Hdn.out HR3.out hnl).mono ?_); rintro e w4 ho; rw [Hv.out] at ho; obtain ⟨y, dv4, ov4, way4, rfl, hyl, h1, h2, h3⟩ := ho; (clear h3; have cat3 := cat2 y (by omega); have p3 : ((22 : Int) == 0) = false := rfl); (have HR4 := Lib.hid (show RefAt KP KW w4 B X lv L dv4 dn 22 n2 ov4 _ from h1); have HB4 := Lib.hid (HB3.out.trans h2); obtain ⟨-, -, p2, -, -, -⟩ := HR4.out.cells; clear h1 h2)))
                go_roundw
                case rel => exact ⟨_, r, dn, 22, n2, dv4, ov4, way4, by rw [Hx.out], rfl, HR4, HB4, hrl2, Lib.hid (.inr ⟨by decide, by rw [Hres.out], by rw [Hres.out]; trivial, by rw [Hres.out]; rfl, by rw [Hres.out]; rfl⟩)⟩
                case measure => rw [Hx.out]; exact Hlt.out
              | big n2 =>
                have Hres := Lib.hid (show R = (.big n2, dn) from hR.trans (txtP_vg hc hg hl hv))
                clear hR hc hway hdn hv
                generalize acc ++ a = P at cat Hres hg hpl
                have z1 : ¬ (4096 : Int) < (((bz P).size : Nat) : Int) := by rw [bz_size]; omega
                have z2 := decide_eq_false z1
                have cat2 := fun y (h : y.length ≤ 5000000) => concatN P y (by omega) h
                go_wp2_with (first
                  | (go_at_call 34; with_reducible refine Hc.out.mono ?_; rintro e w1 ⟨rfl, nd, rfl⟩; dsimp only [refV]; (have HR1 := Lib.hid (HR.out.new (below_drewN (Below.refl _ _) nd)); have HB1 := Lib.hid (below_drewN HB.out nd)))
                  | (go_at_call 19; with_reducible refine (At_any lv L n _ (RProps.stable.sub HR1.out.props fun b hb => Nat.lt_of_lt_of_le hb HR1.out.size)).mono ?_; rintro e w3 ⟨rfl, h2⟩; (have HR3 := Lib.hid (HR1.out.new h2); have HB3 := Lib.hid (HB1.out.trans (h2.mono HR1.out.size)); obtain ⟨q0, -, q2, -, -, -⟩ := HR3.out.cells; clear h2))
                  | (go_at_call 38; (with_reducible refine (HV.out way D n w3 dv' ov' hwd hl Hway.out Hdn.out HR3.out hnl).mono ?_); rintro e w4 ho; rw [Hv.out] at ho; obtain ⟨y, dv4, ov4, way4, rfl, hyl, h1, h2, h3⟩ := ho; (clear h3; have cat3 := cat2 y (by omega); have p3 : ((2 : Int) == 0) = false := rfl); (have HR4 := Lib.hid (show RefAt KP KW w4 B X lv L dv4 dn 2 n2 ov4 _ from h1); have HB4 := Lib.hid (HB3.out.trans h2); obtain ⟨-, -, p2, -, -, -⟩ := HR4.out.cells; clear h1 h2)))
                go_roundw
                case rel => exact ⟨_, r, dn, 2, n2, dv4, ov4, way4, by rw [Hx.out], rfl, HR4, HB4, hrl2, Lib.hid (.inr ⟨by decide, by rw [Hres.out], by rw [Hres.out]; trivial, by rw [Hres.out]; rfl, by rw [Hres.out]; rfl⟩)⟩
                case measure => rw [Hx.out]; exact Hlt.out
              | ok v =>
                by_cases hg2 : 4096 < (acc ++ a ++ v).length
                · have Hres := Lib.hid (show R = (.big me, dn) from hR.trans (txtP_vb hc hg hl hv hg2))
                  clear hR hc hway hdn hv
                  generalize acc ++ a = P at cat Hres hg hpl hg2
                  have z9 : ¬ (4096 : Int) < (((bz P).size : Nat) : Int) := by rw [bz_size]; omega
                  have z8 := decide_eq_false z9
                  have cat2 := fun (h : v.length ≤ 5000000) => concatN P v (by omega) h
                  generalize P ++ v = Q at cat2 hg2
                  have z1 : (4096 : Int) < (((bz Q).size : Nat) : Int) := by rw [bz_size]; omega
                  have z2 := decide_eq_true z1
                  go_wp2_with (first
                    | (go_at_call 34; with_reducible refine Hc.out.mono ?_; rintro e w1 ⟨rfl, nd, rfl⟩; dsimp only [refV]; (have HR1 := Lib.hid (HR.out.new (below_drewN (Below.refl _ _) nd)); have HB1 := Lib.hid (below_drewN HB.out nd)))
                    | (go_at_call 19; with_reducible refine (At_any lv L n _ (RProps.stable.sub HR1.out.props fun b hb => Nat.lt_of_lt_of_le hb HR1.out.size)).mono ?_; rintro e w3 ⟨rfl, h2⟩; (have HR3 := Lib.hid (HR1.out.new h2); have HB3 := Lib.hid (HB1.out.trans (h2.mono HR1.out.size)); obtain ⟨q0, -, q2, -, -, -⟩ := HR3.out.cells; clear h2))
                    | (go_at_call 38; (with_reducible refine (HV.out way D n w3 dv' ov' hwd hl Hway.out Hdn.out HR3.out hnl).mono ?_); rintro e w4 ho; rw [Hv.out] at ho; obtain ⟨y, dv4, ov4, way4, rfl, hyl, h1, h2, h3⟩ := ho; (obtain ⟨rfl, rfl⟩ := h3 _ rfl; have cat3 := cat2 (by omega)); (have HR4 := Lib.hid (show RefAt KP KW w4 B X lv L dv4 dn 0 [] ov4 _ from h1); have HB4 := Lib.hid (HB3.out.trans h2); obtain ⟨-, -, p2, -, -, -⟩ := HR4.out.cells; clear h1 h2))
                    | (go_at_call 46; with_reducible refine (fail_any 2 me HR4.out).mono ?_; rintro e w5 ⟨rfl, h1, h2⟩; (have HR5 := Lib.hid h1; have HB5 := Lib.hid (HB4.out.trans h2); clear h1 h2)))
                  go_roundw
                  case rel => exact ⟨_, r, dn, 2, me, dv4, ov4, _, by rw [Hx.out], rfl, HR5, HB5, hrl2, Lib.hid (.inr ⟨by decide, by rw [Hres.out], by rw [Hres.out]; trivial, by rw [Hres.out]; rfl, by rw [Hres.out]; rfl⟩)⟩
                  case measure => rw [Hx.out]; exact Hlt.out
                · have Hres := Lib.hid (show R = txtP (fun done m => valP L d way done m) L me dn (acc ++ a ++ v) r from hR.trans (txtP_vo hc hg hl hv hg2))
                  clear hR hc hway hdn hv
                  generalize acc ++ a = P at cat Hres hg hpl hg2
                  have z9 : ¬ (4096 : Int) < (((bz P).size : Nat) : Int) := by rw [bz_size]; omega
                  have z8 := decide_eq_false z9
                  have cat2 := fun (h : v.length ≤ 5000000) => concatN P v (by omega) h
                  generalize P ++ v = Q at cat2 hg2 Hres
                  have z1 : ¬ (4096 : Int) < (((bz Q).size : Nat) : Int) := by rw [bz_size]; omega
                  have z2 := decide_eq_false z1
                  go_wp2_with (first
                    | (go_at_call 34; with_reducible refine Hc.out.mono ?_; rintro e w1 ⟨rfl, nd, rfl⟩; dsimp only [refV]; (have HR1 := Lib.hid (HR.out.new (below_drewN (Below.refl _ _) nd)); have HB1 := Lib.hid (below_drewN HB.out nd)))
                    | (go_at_call 19; with_reducible refine (At_any lv L n _ (RProps.stable.sub HR1.out.props fun b hb => Nat.lt_of_lt_of_le hb HR1.out.size)).mono ?_; rintro e w3 ⟨rfl, h2⟩; (have HR3 := Lib.hid (HR1.out.new h2); have HB3 := Lib.hid (HB1.out.trans (h2.mono HR1.out.size)); obtain ⟨q0, -, q2, -, -, -⟩ := HR3.out.cells; clear h2))
                    | (go_at_call 38; (with_reducible refine (HV.out way D n w3 dv' ov' hwd hl Hway.out Hdn.out HR3.out hnl).mono ?_); rintro e w4 ho; rw [Hv.out] at ho; obtain ⟨y, dv4, ov4, way4, rfl, hyl, h1, h2, h3⟩ := ho; (obtain ⟨rfl, rfl⟩ := h3 _ rfl; have cat3 := cat2 (by omega)); (have HR4 := Lib.hid (show RefAt KP KW w4 B X lv L dv4 dn 0 [] ov4 _ from h1); have HB4 := Lib.hid (HB3.out.trans h2); obtain ⟨-, -, p2, -, -, -⟩ := HR4.out.cells; clear h1 h2)))
                  go_roundw
                  case rel => exact ⟨Q, r, dn, 0, [], dv4, ov4, _, by rw [Hx.out], rfl, HR4, HB4, hrl2, Lib.hid (.inl ⟨rfl, rfl, rfl, by omega, Hk2.out, Hd2.out, Hres.out⟩)⟩
                  case measure => rw [Hx.out]; exact Hlt.out
          | false =>
            rw [hl] at hi
            have hi2 : ¬ (0 : Int) ≤ idxP L n := of_decide_eq_false hi
            have x1 := fun w => concat1 n hnl w
            have x2 := fun w => concat2 n hnl w
            by_cases hg2 : 4096 < (acc ++ a ++ 36 :: 123 :: (n ++ [125])).length
            · have Hres := Lib.hid (show R = (.big me, D) from hR.trans (txtP_ub hc hg hl hg2))
              clear hR hc hway hdn
              have cat2 := concatN (acc ++ a) (36 :: 123 :: (n ++ [125])) (by omega) (by simp; omega)
              generalize acc ++ a = P at cat Hres hg hpl hg2 cat2
              have z9 : ¬ (4096 : Int) < (((bz P).size : Nat) : Int) := by rw [bz_size]; omega
              have z8 := decide_eq_false z9
              generalize P ++ 36 :: 123 :: (n ++ [125]) = Q at cat2 hg2
              have z1 : (4096 : Int) < (((bz Q).size : Nat) : Int) := by rw [bz_size]; omega
              have z2 := decide_eq_true z1
              go_wp2_with (first
                | (go_at_call 34; with_reducible refine Hc.out.mono ?_; rintro e w1 ⟨rfl, nd, rfl⟩; dsimp only [refV]; (have HR1 := Lib.hid (HR.out.new (below_drewN (Below.refl _ _) nd)); have HB1 := Lib.hid (below_drewN HB.out nd)))
                | (go_at_call 19; with_reducible refine (At_any lv L n _ (RProps.stable.sub HR1.out.props fun b hb => Nat.lt_of_lt_of_le hb HR1.out.size)).mono ?_; rintro e w3 ⟨rfl, h2⟩; (have HR3 := Lib.hid (HR1.out.new h2); have HB3 := Lib.hid (HB1.out.trans (h2.mono HR1.out.size)); obtain ⟨q0, -, q2, -, -, -⟩ := HR3.out.cells; clear h2))
                | (go_at_call 46; with_reducible refine (fail_any 2 me HR3.out).mono ?_; rintro e w5 ⟨rfl, h1, h2⟩; (have HR5 := Lib.hid h1; have HB5 := Lib.hid (HB3.out.trans h2); clear h1 h2)))
              go_roundw
              case rel => exact ⟨_, r, D, 2, me, dv', ov', _, by rw [Hx.out], rfl, HR5, HB5, hrl2, Lib.hid (.inr ⟨by decide, by rw [Hres.out], by rw [Hres.out]; trivial, by rw [Hres.out]; rfl, by rw [Hres.out]; rfl⟩)⟩
              case measure => rw [Hx.out]; exact Hlt.out
            · have Hres := Lib.hid (show R = txtP (fun done m => valP L d way done m) L me D (acc ++ a ++ 36 :: 123 :: (n ++ [125])) r from hR.trans (txtP_uo hc hg hl hg2))
              clear hR hc hway hdn
              have cat2 := concatN (acc ++ a) (36 :: 123 :: (n ++ [125])) (by omega) (by simp; omega)
              generalize acc ++ a = P at cat Hres hg hpl hg2 cat2
              have z9 : ¬ (4096 : Int) < (((bz P).size : Nat) : Int) := by rw [bz_size]; omega
              have z8 := decide_eq_false z9
              generalize P ++ 36 :: 123 :: (n ++ [125]) = Q at cat2 hg2 Hres
              have z1 : ¬ (4096 : Int) < (((bz Q).size : Nat) : Int) := by rw [bz_size]; omega
              have z2 := decide_eq_false z1
              go_wp2_with (first
                | (go_at_call 34; with_reducible refine Hc.out.mono ?_; rintro e w1 ⟨rfl, nd, rfl⟩; dsimp only [refV]; (have HR1 := Lib.hid (HR.out.new (below_drewN (Below.refl _ _) nd)); have HB1 := Lib.hid (below_drewN HB.out nd)))
                | (go_at_call 19; with_reducible refine (At_any lv L n _ (RProps.stable.sub HR1.out.props fun b hb => Nat.lt_of_lt_of_le hb HR1.out.size)).mono ?_; rintro e w3 ⟨rfl, h2⟩; (have HR3 := Lib.hid (HR1.out.new h2); have HB3 := Lib.hid (HB1.out.trans (h2.mono HR1.out.size)); obtain ⟨q0, -, q2, -, -, -⟩ := HR3.out.cells; clear h2)))
              go_roundw
              case rel => exact ⟨Q, r, D, 0, [], dv', ov', _, by rw [Hx.out], rfl, HR3, HB3, hrl2, Lib.hid (.inl ⟨rfl, rfl, rfl, by omega, Hway.out, Hdn.out, Hres.out⟩)⟩
              case measure => rw [Hx.out]; exact Hlt.out
    · have hb0 : (errOf R.1 == 0) = false := beq_eq_false_iff_ne.2 hb
      have HD := Lib.hid hD
      have Hno := Lib.hid hno
      clear hb hD hno
      go_wp2
      go_ret
      refine ⟨[], dv', ov', way', rfl, by simp, by rw [HD.out]; exact HR.out, HB.out, fun v hv => ?_⟩
      rw [hv] at Hno
      exact Hno.out.elim
end Go.Proofs.Ytpgdioopkcfjdaa
