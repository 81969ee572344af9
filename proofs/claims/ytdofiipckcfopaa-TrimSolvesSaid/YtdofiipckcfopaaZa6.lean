/- What a trimmed question that is handed to a law holds. / Which questions may be: what the reference computes. / What Same of the reference computes: whether two rows of rows are the same. -/
import Derived.Test.YtdofiipckcfopaaZa
import Derived.Test.YtdofiipckcfopaaZa5
import Derived.Test.YtdofiipckcfopaaZk
namespace Go.Proofs.Ytdofiipckcfopaa
open Go.RowKit Go.ChangeShapes Go.WideShapes Go.ChangeAt Go.Deep Go.Joins

set_option maxRecDepth 100000 in
theorem arg_trimmed {w : World} {v : Value} (h : Arg Try.prog w 29 v) : ∃ n s0 s1 C F, v = .agg #[.int .i64 n, s0, s1] ∧ RIntss w (Lt w.heap.size) s0 C ∧ RInts w (Lt w.heap.size) s1 F ∧ -9223372036854775808 ≤ n ∧ n ≤ 9223372036854775807 := by
  obtain ⟨H, enc, base, d, p, hv, ⟨fuel, hf⟩, hlt⟩ := h
  obtain ⟨cs, rfl, hsz⟩ := okWide_struct Try.underlying29 hv
  obtain ⟨c0, c1, c2, rfl⟩ := array3 (hsz.trans (by kernel_rfl))
  obtain ⟨y0, y1, n, hx, _, g0, g1⟩ := trod_struct2 Try.underlying29 hf
  simp only [Prod.mk.injEq] at hx
  obtain ⟨rfl, rfl⟩ := hx
  have k0 : Try.prog.cellsOf 24 = 2 := by kernel_rfl
  have k1 : Try.prog.cellsOf 3 = 1 := by kernel_rfl
  have k2 : Try.prog.cellsOf 22 = 1 := by kernel_rfl
  have k3 : Try.prog.cellsOf 27 = 1 := by kernel_rfl
  simp only [Value.cells, k0, k3] at g0 g1
  obtain ⟨z0, z1, m, hz, _, q0, q1⟩ := trod_struct2 Try.underlying24 g0
  simp only [k1, k2] at q0 q1
  have hz2 : y0.2 = z0.2 ++ z1.2 := by rw [hz]
  obtain ⟨u0, x0, e0, r0⟩ := reads1_int Try.underlying3 q0 (fun q hq => hlt q (by simp [hz2, hq]))
  obtain ⟨u1, C, e1, r1⟩ := reads1_intss q1 (fun q hq => hlt q (by simp [hz2, hq]))
  obtain ⟨u2, F, e2, r2⟩ := reads1_ints g1 (fun q hq => hlt q (by simp [hq]))
  simp at e0 e1 e2
  subst e0 e1 e2
  obtain ⟨rfl, b1, b2⟩ := r0
  exact ⟨x0, _, _, C, F, rfl, r1, r2, b1, b2⟩
end Go.Proofs.Ytdofiipckcfopaa

namespace Go.Proofs.Ytdofiipckcfopaa
open Go.RowKit

theorem or_any_succ {α : Type} {b : Bool} {p : α → Bool} {l : List α} {k : Nat} (h : k < l.length) : (b || (l.take (k + 1)).any p) = ((b || (l.take k).any p) || p l[k]) := by
  rw [any_take_succ _ _ _ h, Bool.or_assoc]
theorem refMayN {v : Int} {cls : List (List Int)} (h1 : ¬ (1024 < v ∨ 16384 < cls.length)) (h2 : cls.any (fun c => decide (2048 < c.length)) = false) : satMayN v cls = if (decide (v < 0) || cls.any (fun c => c.any (badLit v))) then 1 else 0 := by
  unfold satMayN
  rw [if_neg h1, h2]
  by_cases h3 : v < 0
  · simp [h3]
  · simp [h3]
set_option maxRecDepth 100000 in
set_option maxHeartbeats 2000000 in
theorem refSatMay_any (v : Int) (s : Value) (cls : List (List Int)) (w : World) (hs : RIntss w (Lt w.heap.size) s cls) :
    Calls Try.prog 11 #[.agg #[.int .i64 v, s]] w fun e w' => e = .returned (.int .i64 (satMayN v cls : Nat)) ∧ Below w.heap.size w w' := by
  obtain ⟨A, c, rfl, hm, hat⟩ := hs.open_
  have hb : Below w.heap.size w (w.alloc (.cells #[.int .i64 v, .slice A cls.length c] 24)) := (Below.refl _ _).alloc (Nat.le_refl _) _
  have Hb := Lib.hid hb; clear hb
  have Hat := Lib.hid hat; clear hat
  by_cases h1 : 1024 < v
  · have Hd := Lib.hid (show (2 : Int) = (satMayN v cls : Nat) by simp [satMayN, h1])
    go_enter Try.func11, Try.ntmps11
    go_wp2
    go_ret
    exact ⟨ret_int Hd.out, Hb.out⟩
  by_cases h2 : 16384 < cls.length
  · have Hd := Lib.hid (show (2 : Int) = (satMayN v cls : Nat) by simp [satMayN, h2])
    go_enter Try.func11, Try.ntmps11
    go_wp2
    go_ret
    exact ⟨ret_int Hd.out, Hb.out⟩
  have H12 := Lib.hid (show ¬ (1024 < v ∨ 16384 < cls.length) by omega)
  obtain ⟨b0, hb0⟩ : ∃ b0, b0 = decide (v < 0) := ⟨_, rfl⟩
  have Hb0 := Lib.hid hb0
  have hb1 : v < 0 → b0 = true := fun h => by rw [hb0]; simpa using h
  have hbb : decide (v < 0) = b0 := hb0.symm
  have Hb1 := Lib.hid hb1
  clear hb0 hb1
  go_enter Try.func11, Try.ntmps11
  go_wp2
  go_loop [23, 3] (fun sv bv => ∃ k : Nat, k ≤ cls.length ∧ sv = .int .i64 k ∧ (∃ b, bv = .bool b ∧ Hid (b = (b0 || (cls.take k).any (fun c => c.any (badLit v))))) ∧ Hid ((cls.take k).any (fun c => decide (2048 < c.length)) = false)) (fun sv _ => cls.length - (intOf sv).toNat)
  case atStart => exact ⟨0, Nat.zero_le _, rfl, ⟨_, by first | rfl | (rw [hbb]), by simp [Hid]⟩, hid_nil_any _ _⟩
  case round =>
    obtain ⟨k, hkle, rfl, ⟨b, rfl, hbinv⟩, hkinv⟩ := hrel
    by_cases hklt : k < cls.length
    · obtain ⟨bk, offk, uk, rfl, hbk, hcellk, huk⟩ := Hat.out.lt_ hklt
      obtain ⟨A2, c2, rfl, hm2, hat2⟩ := huk.open_
      have Hat2 := Lib.hid hat2; clear hat2 huk
      by_cases h3 : 2048 < cls[k].length
      · have Hd := Lib.hid (show (2 : Int) = (satMayN v cls : Nat) by
          have hbig : cls.any (fun c => decide (2048 < c.length)) = true := any_at (h := hklt) (by simpa using h3)
          unfold satMayN; rw [if_neg H12.out, hbig]; rfl)
        go_wp2
        go_ret
        exact ⟨ret_int Hd.out, Hb.out⟩
      · have Hs3 := Lib.hid (or_any_succ (b := b0) (p := fun c : List Int => c.any (badLit v)) hklt)
        have Hk2 := Lib.hid (hid_any_succ hklt hkinv (by simpa using h3))
        go_wp2
        go_loop [32, 3] (fun sv bv => ∃ q : Nat, q ≤ cls[k].length ∧ sv = .int .i64 q ∧ ∃ b', bv = .bool b' ∧ Hid (b' = (b || (cls[k].take q).any (badLit v)))) (fun sv _ => cls[k].length - (intOf sv).toNat)
        case atStart => exact ⟨0, Nat.zero_le _, rfl, b, rfl, by simp [Hid]⟩
        case round =>
          obtain ⟨q, hqle, rfl, b', rfl, hqinv⟩ := hrel
          by_cases hqlt : q < cls[k].length
          · obtain ⟨bq, offq, uq, rfl, hbq, hcellq, huq⟩ := Hat2.out.lt_ hqlt
            obtain rfl := huq
            have Hs4 := Lib.hid (or_any_succ (b := b) (p := badLit v) hqlt)
            cases b' with
            | true =>
              go_wp2
              go_round
              case rel => exact ⟨q + 1, by omega, by go_num, _, rfl, by rw [Hid, Hs4.out, ← hqinv.out]; rfl⟩
              case measure => simp [intOf]; omega
            | false =>
              have hv0 : ¬ v < 0 := fun h => by
                have := Hb1.out h
                have h5 := hbinv.out
                have h6 := hqinv.out
                rw [this] at h5
                rw [h5] at h6
                simp at h6
              have hv1 : 0 ≤ v := by omega
              obtain ⟨x, hx⟩ : ∃ x, x = cls[k][q] := ⟨_, rfl⟩
              rw [← hx] at hcellq Hs4
              have Hbl := Lib.hid (show badLit v x = (x == 0 || decide (v < x) || decide (x < -v)) from rfl)
              by_cases hx0 : x = 0
              · have e0 : (x == 0) = true := by simp [hx0]
                have Hn := Lib.hid (show true = badLit v x by rw [Hbl.out, e0]; rfl)
                clear hx hx0 hv0
                go_wp2
                go_round
                case rel => exact ⟨q + 1, by omega, by go_num, true, rfl, by rw [Hid, Hs4.out, ← hqinv.out]; exact Hn.out⟩
                case measure => simp [intOf]; omega
              have e0 : (x == 0) = false := by simp [hx0]
              by_cases hx1 : v < x
              · have Hn := Lib.hid (show true = badLit v x by rw [Hbl.out]; simp [hx1])
                clear hx hx0 hv0
                go_wp2
                go_round
                case rel => exact ⟨q + 1, by omega, by go_num, true, rfl, by rw [Hid, Hs4.out, ← hqinv.out]; exact Hn.out⟩
                case measure => simp [intOf]; omega
              by_cases hx2 : x < -v
              · have Hn := Lib.hid (show true = badLit v x by rw [Hbl.out]; simp [hx2])
                clear hx hx0 hv0
                go_wp2
                go_round
                case rel => exact ⟨q + 1, by omega, by go_num, true, rfl, by rw [Hid, Hs4.out, ← hqinv.out]; exact Hn.out⟩
                case measure => simp [intOf]; omega
              · have Hn := Lib.hid (show false = badLit v x by rw [Hbl.out, e0]; simp; omega)
                clear hx hx0 hv0
                go_wp2
                go_round
                case rel => exact ⟨q + 1, by omega, by go_num, false, rfl, by rw [Hid, Hs4.out, ← hqinv.out]; exact Hn.out⟩
                case measure => simp [intOf]; omega
          · obtain rfl : q = cls[k].length := by omega
            rw [List.take_length] at hqinv
            go_wp2
            go_round
            case rel => exact ⟨k + 1, by omega, by go_num, ⟨_, rfl, by rw [Hid, Hs3.out, ← hbinv.out]; exact hqinv.out⟩, Hk2.out⟩
            case measure => simp [intOf]; omega
    · obtain rfl : k = cls.length := by omega
      have Hr := Lib.hid (refMayN H12.out (hid_any_end hkinv))
      rw [List.take_length] at hbinv
      have Hbr := Lib.hid (show (decide (v < 0) || cls.any (fun c => c.any (badLit v))) = b by rw [hbb]; exact hbinv.out.symm)
      cases b with
      | true =>
        go_wp2
        go_ret
        exact ⟨ret_int (by rw [Hr.out, Hbr.out]; rfl), Hb.out⟩
      | false =>
        go_wp2
        go_ret
        exact ⟨ret_int (by rw [Hr.out, Hbr.out]; rfl), Hb.out⟩
end Go.Proofs.Ytdofiipckcfopaa

namespace Go.Proofs.Ytdofiipckcfopaa
open Go.RowKit

theorem take_eq_succ {α : Type} {a b : List α} {k : Nat} (h1 : k < a.length) (h2 : k < b.length) (h : a.take k = b.take k) (he : a[k] = b[k]) : a.take (k + 1) = b.take (k + 1) := by
  rw [List.take_succ_eq_append_getElem h1, List.take_succ_eq_append_getElem h2, h, he]
theorem take_ne {α : Type} {a b : List α} {k : Nat} (h1 : k < a.length) (h2 : k < b.length) (he : a[k] ≠ b[k]) : a ≠ b := by
  rintro rfl; exact he rfl
theorem take_eq_end {α : Type} {a b : List α} (hl : a.length = b.length) (h : a.take a.length = b.take a.length) : a = b := by
  rw [List.take_length, hl, List.take_length] at h; exact h
theorem drewN_two (w : World) (a b : Nat) : (w.drewN a).drewN b = w.drewN (a + b) := by simp [World.drewN, Nat.add_assoc]
def SamePost (A B : List (List Int)) (w : World) (e : Ending) (w' : World) : Prop := e = .returned (.bool (decide (A = B))) ∧ ∃ n, w' = w.drewN n
set_option maxRecDepth 100000 in
set_option maxHeartbeats 2000000 in
theorem Same_any (s1 s2 : Value) (A B : List (List Int)) (w : World) {S1 S2 : Nat → Prop} (h1 : RIntss w S1 s1 A) (h2 : RIntss w S2 s2 B) : Calls Try.prog 13 #[s1, s2] w (SamePost A B w) := by
  have hm1 := h1.open_
  have hm2 := h2.open_
  obtain ⟨A1, c1, rfl, hm1, hat1⟩ := hm1
  obtain ⟨A2, c2, rfl, hm2, hat2⟩ := hm2
  have Hat1 := Lib.hid hat1; have Hat2 := Lib.hid hat2
  clear h1 h2 hat1 hat2
  by_cases hl : A.length = B.length
  case neg =>
    have hne : ((A.length : Int) != B.length) = true := by simp; omega
    have Hd := Lib.hid (show decide (A = B) = false by simp; rintro rfl; exact hl rfl)
    clear hl
    go_enter Try.func13, Try.ntmps13
    go_wp2
    go_ret
    exact ⟨ret_bool Hd.out.symm, 0, rfl⟩
  case pos =>
    have hne : ((A.length : Int) != B.length) = false := by simp; omega
    have Hl := Lib.hid hl; clear hl
    go_enter Try.func13, Try.ntmps13
    go_wp2
    go_loopw [14] (fun sv wr => ∃ k : Nat, k ≤ A.length ∧ sv = .int .i64 k ∧ (∃ n, wr = w.drewN n) ∧ Hid (A.take k = B.take k)) (fun sv _ => A.length - (intOf sv).toNat)
    case atStart => exact ⟨0, Nat.zero_le _, rfl, ⟨0, rfl⟩, rfl⟩
    case round =>
      obtain ⟨k, hkle, rfl, ⟨n, rfl⟩, hinv⟩ := hrel
      by_cases hklt : k < A.length
      · have hkb : k < B.length := by have := Hl.out; omega
        obtain ⟨b1, off1, e1, hb1, hc1⟩ := Hat1.out (by omega)
        obtain ⟨b2, off2, e2, hb2, hc2⟩ := Hat2.out (by omega)
        subst e1 e2
        obtain ⟨u1, hcell1, hu1⟩ := hc1 k hklt
        obtain ⟨u2, hcell2, hu2⟩ := hc2 k hkb
        obtain ⟨A3, c3, rfl, hm3, hat3⟩ := hu1.open_
        obtain ⟨A4, c4, rfl, hm4, hat4⟩ := hu2.open_
        have Hat3 := Lib.hid hat3; have Hat4 := Lib.hid hat4
        clear hc1 hc2 hat3 hat4 hu1 hu2
        by_cases hlk : A[k].length = B[k].length
        case neg =>
          have hne2 : ((A[k].length : Int) != B[k].length) = true := by simp; omega
          have Hd := Lib.hid (show decide (A = B) = false by simp; exact take_ne hklt hkb (fun e => hlk (by rw [e])))
          clear hlk
          go_wp2
          go_quiet (fail)
          go_wp2
          go_ret
          exact ⟨ret_bool Hd.out.symm, _, drewN_two _ _ _⟩
        case pos =>
          have hne2 : ((A[k].length : Int) != B[k].length) = false := by simp; omega
          have Hlk := Lib.hid hlk; clear hlk
          go_wp2
          go_quiet (fail)
          go_wp2
          go_loopw [33] (fun sv wr => ∃ q : Nat, q ≤ A[k].length ∧ sv = .int .i64 q ∧ (∃ n, wr = w.drewN n) ∧ Hid (A[k].take q = B[k].take q)) (fun sv _ => A[k].length - (intOf sv).toNat)
          case atStart => exact ⟨0, Nat.zero_le _, rfl, ⟨_, rfl⟩, rfl⟩
          case round =>
            obtain ⟨q, hqle, rfl, ⟨n2, rfl⟩, hinv2⟩ := hrel
            by_cases hqlt : q < A[k].length
            · have hqb : q < B[k].length := by have := Hlk.out; omega
              obtain ⟨b3, off3, e3, hb3, hc3⟩ := Hat3.out (by omega)
              obtain ⟨b4, off4, e4, hb4, hc4⟩ := Hat4.out (by omega)
              subst e3 e4
              obtain ⟨u3, hcell3, hu3⟩ := hc3 q hqlt
              obtain ⟨u4, hcell4, hu4⟩ := hc4 q hqb
              obtain rfl := hu3
              obtain rfl := hu4
              clear hc3 hc4
              by_cases hv : A[k][q] = B[k][q]
              case neg =>
                have hne3 : (A[k][q] != B[k][q]) = true := by simp [hv]
                have Hd := Lib.hid (show decide (A = B) = false by simp; exact take_ne hklt hkb (take_ne hqlt hqb hv))
                clear hv
                go_wp2
                go_quiet (fail)
                go_wp2
                go_ret
                exact ⟨ret_bool Hd.out.symm, _, drewN_two _ _ _⟩
              case pos =>
                have hne3 : (A[k][q] != B[k][q]) = false := by simp [hv]
                have Hn := Lib.hid (show Hid (A[k].take (q + 1) = B[k].take (q + 1)) from take_eq_succ hqlt hqb hinv2.out hv)
                clear hv
                go_wp2
                go_quiet (fail)
                go_wp2
                go_roundw
                case rel => exact ⟨q + 1, by omega, by go_num, ⟨_, rfl⟩, Hn.out⟩
                case measure => simp [intOf]; omega
            · obtain rfl : q = A[k].length := by omega
              have Hn := Lib.hid (show Hid (A.take (k + 1) = B.take (k + 1)) from take_eq_succ hklt hkb hinv.out (take_eq_end Hlk.out hinv2.out))
              clear hqlt hqle hinv2
              go_wp2
              go_roundw
              case rel => exact ⟨k + 1, by omega, by go_num, ⟨_, rfl⟩, Hn.out⟩
              case measure => simp [intOf]; omega
      · obtain rfl : k = A.length := by omega
        have Hd := Lib.hid (show decide (A = B) = true by simpa using take_eq_end Hl.out hinv.out)
        clear hklt hkle hinv
        go_wp2
        go_ret
        exact ⟨ret_bool Hd.out.symm, _, rfl⟩
end Go.Proofs.Ytdofiipckcfopaa
