/- What the functions May of the layers cnf (program and reference) and sat compute, and which clauses hold. -/
import Derived.Test.YtlaihjhkghbfkaaCnfW1
namespace Go.Proofs.Ytlaihjhkghbfkaa
open Go.RowKit

theorem hid_nil_any {α : Type} (p : α → Bool) (l : List α) : Hid ((l.take 0).any p = false) := by simp [Hid]
theorem hid_any_succ {α : Type} {p : α → Bool} {l : List α} {k : Nat} (h : k < l.length) (hi : Hid ((l.take k).any p = false)) (hp : p l[k] = false) : Hid ((l.take (k + 1)).any p = false) := by
  rw [Hid, any_take_succ _ _ _ h, hi.out, hp]; rfl
theorem hid_any_end {α : Type} {p : α → Bool} {l : List α} (hi : Hid ((l.take l.length).any p = false)) : l.any p = false := by rw [List.take_length] at hi; exact hi

set_option maxHeartbeats 1000000 in
theorem May_any (A : Option Addr) (n0 c0 : Nat) (s1 : Value) (r : Int) (wss : List (List (List Int))) (w : World) (hw : RIntsss w (Lt w.heap.size) s1 wss) :
    Calls Try.prog 11 #[.agg #[.slice A n0 c0, s1, .int .i64 r]] w fun e w' => e = .returned (.int .i64 (errOf (mayN n0 r wss))) ∧ Below w.heap.size w w' := by
  obtain ⟨A1, c1, rfl, hm, hat⟩ := hw.open_
  have Hat := Lib.hid hat; clear hat
  by_cases h1 : 1024 < n0
  · have Hd := Lib.hid (show (2 : Int) = errOf (mayN n0 r wss) by simp [mayN, h1, errOf])
    go_enter Try.func11, Try.ntmps11
    go_wp2
    go_ret
    exact ⟨ret_int Hd.out, (Below.refl _ _).alloc (Nat.le_refl _) _⟩
  by_cases h2 : isItemB n0 r = false
  · have Hd := Lib.hid (show (1 : Int) = errOf (mayN n0 r wss) by simp [mayN, h1, h2, errOf])
    have H2 := Lib.hid h2; clear h2
    go_enter Try.func11, Try.ntmps11
    go_wp2_with (first | (go_at_call 21; refine (isItem_any _ _ _ _ _ _ _).mono ?_; rintro e w1 ⟨rfl, hb⟩; rw [H2.out]; obtain ⟨hc, hf⟩ := bcell hb))
    go_ret
    exact ⟨ret_int Hd.out, ((Below.refl _ _).alloc (Nat.le_refl _) _).trans (hb.mono (by simp))⟩
  by_cases h3 : ¬ wss.length = n0
  · have Hd := Lib.hid (show (1 : Int) = errOf (mayN n0 r wss) by simp [mayN, h1, h3, errOf])
    have H2 := Lib.hid (show isItemB n0 r = true by simpa using h2); clear h2
    have h3' : ((wss.length : Int) != n0) = true := by simp; omega
    go_enter Try.func11, Try.ntmps11
    go_wp2_with (first | (go_at_call 21; refine (isItem_any _ _ _ _ _ _ _).mono ?_; rintro e w1 ⟨rfl, hb⟩; rw [H2.out]; obtain ⟨hc, hf⟩ := bcell hb))
    all_goals
      go_ret
      exact ⟨ret_int Hd.out, ((Below.refl _ _).alloc (Nat.le_refl _) _).trans (hb.mono (by simp))⟩
  have h3 : wss.length = n0 := by simpa using h3
  have hmay : mayN n0 r wss = if badRR n0 wss then 1 else 0 := by simp [mayN, h1, h2, h3]
  have Hmay := Lib.hid hmay; clear hmay
  have H2 := Lib.hid (show isItemB n0 r = true by simpa using h2); clear h2
  subst h3
  go_enter Try.func11, Try.ntmps11
  go_wp2_with (first | (go_at_call 21; refine (isItem_any _ _ _ _ _ _ _).mono ?_; rintro e w1 ⟨rfl, hb⟩; rw [H2.out]; obtain ⟨hc, hf⟩ := bcell hb))
  have hbw : Below w.heap.size w w1 := ((Below.refl _ _).alloc (Nat.le_refl _) _).trans (hb.mono (by simp))
  have hz : w.heap.size < w1.heap.size := by have := hb.size; simp at this; omega
  go_loopw [32] (fun sv wr => ∃ k : Nat, k ≤ (wss).length ∧ sv = .int .i64 k ∧ Below (w.heap.size+1) w1 wr ∧ Hid ((wss.take k).any (badR wss.length) = false)) (fun sv _ => (wss).length - (intOf sv).toNat)
  case atStart => exact ⟨0, Nat.zero_le _, rfl, Below.refl _ _, hid_nil_any _ _⟩
  case round =>
    obtain ⟨wk, rfl⟩ : ∃ w0 : World, w0 = wr := ⟨_, rfl⟩
    obtain ⟨k, hkle, rfl, hkbel, hkinv⟩ := hrel
    by_cases hklt : k < (wss).length
    · obtain ⟨bk, offk, uk, rfl, hbk, hcellk, huk⟩ := Hat.out.at_ RIntss.stable (ag_of_below (hbw.trans (hkbel.mono (by omega)))) hklt
      obtain ⟨A2, c2, rfl, hm2, hat2⟩ := huk.open_
      have Hat2 := Lib.hid hat2; clear hat2
      go_wp2
      go_loopw [38] (fun sv wr => ∃ j : Nat, j ≤ (wss[k]).length ∧ sv = .int .i64 j ∧ Below (w.heap.size+1) wk wr ∧ Hid ((wss[k].take j).any (badW wss.length) = false)) (fun sv _ => (wss[k]).length - (intOf sv).toNat)
      case atStart => exact ⟨0, Nat.zero_le _, rfl, Below.refl _ _, hid_nil_any _ _⟩
      case round =>
        obtain ⟨wj, rfl⟩ : ∃ w0 : World, w0 = wr := ⟨_, rfl⟩
        obtain ⟨j, hjle, rfl, hjbel, hjinv⟩ := hrel
        by_cases hjlt : j < (wss[k]).length
        · obtain ⟨bj, offj, uj, rfl, hbj, hcellj, huj⟩ := Hat2.out.at_ RInts.stable (ag_of_below (hjbel.mono (by omega))) hjlt
          obtain ⟨A3, c3, rfl, hm3, hat3⟩ := huj.open_
          have Hat3 := Lib.hid hat3; clear hat3
          go_wp2
          go_loopw [44] (fun sv wr => ∃ q : Nat, q ≤ (wss[k][j]).length ∧ sv = .int .i64 q ∧ Below (w.heap.size+1) wj wr ∧ Hid ((wss[k][j].take q).any (fun n => !isItemB wss.length n) = false)) (fun sv _ => (wss[k][j]).length - (intOf sv).toNat)
          case atStart => exact ⟨0, Nat.zero_le _, rfl, Below.refl _ _, hid_nil_any _ _⟩
          case round =>
            obtain ⟨wq, rfl⟩ : ∃ w0 : World, w0 = wr := ⟨_, rfl⟩
            obtain ⟨q, hqle, rfl, hqbel, hqinv⟩ := hrel
            by_cases hqlt : q < (wss[k][j]).length
            · obtain ⟨bq, offq, uq, rfl, hbq, hcellq, huq⟩ := Hat3.out.at_ RInt.stable (ag_of_below (hqbel.mono (by omega))) hqlt
              obtain rfl := huq
              have hbr4 := hkbel.trans (hjbel.trans hqbel)
              obtain ⟨hc4, hf4⟩ := bcell hbr4
              cases hi : isItemB wss.length (wss[k][j][q]) with
              | true =>
                have Hi := Lib.hid hi; clear hi
                go_wp2_with (first | (go_at_call 21; refine (isItem_any _ _ _ _ _ _ _).mono ?_; rintro e w2 ⟨rfl, hb2⟩; rw [Hi.out]))
                go_roundw
                case rel => exact ⟨q + 1, by omega, by go_num, (hqbel.trans (hb2.mono (by have := hbr4.size; omega))), (hid_any_succ hqlt hqinv (by rw [Hi.out]; rfl))⟩
                case measure => simp [intOf]; omega
              | false =>
                have Hi := Lib.hid hi; clear hi
                go_wp2_with (first | (go_at_call 21; refine (isItem_any _ _ _ _ _ _ _).mono ?_; rintro e w2 ⟨rfl, hb2⟩; rw [Hi.out]))
                go_ret
                have hbad : badRR wss.length wss = true := any_at (h := hklt) (any_at (h := hjlt) (any_at (h := hqlt) (by rw [Hi.out]; rfl)))
                exact ⟨ret_int (by rw [Hmay.out, hbad]; rfl), hbw.trans ((hbr4.mono (by omega)).trans (hb2.mono (by have := hbr4.size; omega)))⟩
            · obtain rfl : q = (wss[k][j]).length := by omega
              go_wp2
              go_roundw
              case rel => exact ⟨j + 1, by omega, by go_num, (hjbel.trans hqbel), (hid_any_succ hjlt hjinv (hid_any_end hqinv))⟩
              case measure => simp [intOf]; omega
        · obtain rfl : j = (wss[k]).length := by omega
          go_wp2
          go_roundw
          case rel => exact ⟨k + 1, by omega, by go_num, (hkbel.trans hjbel), (hid_any_succ hklt hkinv (hid_any_end hjinv))⟩
          case measure => simp [intOf]; omega
    · obtain rfl : k = (wss).length := by omega
      go_wp2
      go_ret
      exact ⟨ret_int (by rw [Hmay.out, badRR, hid_any_end hkinv]; rfl), hbw.trans (hkbel.mono (by omega))⟩

set_option maxHeartbeats 1000000 in
theorem refMay_any (A : Option Addr) (n0 c0 : Nat) (s1 : Value) (r : Int) (wss : List (List (List Int))) (w : World) (hw : RIntsss w (Lt w.heap.size) s1 wss) :
    Calls Try.prog 12 #[.agg #[.slice A n0 c0, s1, .int .i64 r]] w fun e w' => e = .returned (.int .i64 (mayN n0 r wss : Nat)) ∧ Below w.heap.size w w' := by
  obtain ⟨A1, c1, rfl, hm, hat⟩ := hw.open_
  have Hat := Lib.hid hat; clear hat
  have hb : Below w.heap.size w (w.alloc (.cells #[.slice A n0 c0, .slice A1 wss.length c1, .int .i64 r] 25)) := (Below.refl _ _).alloc (Nat.le_refl _) _
  have Hb := Lib.hid hb; clear hb
  by_cases h1 : 1024 < n0
  · have Hd := Lib.hid (show (2 : Int) = (mayN n0 r wss : Nat) by simp [mayN, h1])
    go_enter Try.func12, Try.ntmps12
    go_wp2
    go_ret
    exact ⟨ret_int Hd.out, Hb.out⟩
  by_cases h2 : r < 0
  · have Hd := Lib.hid (show (1 : Int) = (mayN n0 r wss : Nat) by simp [mayN, h1, show isItemB n0 r = false by simp [isItemB]; omega])
    go_enter Try.func12, Try.ntmps12
    go_wp2
    go_ret
    exact ⟨ret_int Hd.out, Hb.out⟩
  by_cases h2' : (n0 : Int) ≤ r
  · have Hd := Lib.hid (show (1 : Int) = (mayN n0 r wss : Nat) by simp [mayN, h1, show isItemB n0 r = false by simp [isItemB]; omega])
    go_enter Try.func12, Try.ntmps12
    go_wp2
    go_ret
    exact ⟨ret_int Hd.out, Hb.out⟩
  by_cases h3 : ¬ wss.length = n0
  · have Hd := Lib.hid (show (1 : Int) = (mayN n0 r wss : Nat) by simp [mayN, h1, h3])
    have h3' : ((wss.length : Int) != n0) = true := by simp; omega
    go_enter Try.func12, Try.ntmps12
    go_wp2
    all_goals
      go_ret
      exact ⟨ret_int Hd.out, Hb.out⟩
  have h3 : wss.length = n0 := by simpa using h3
  have hmay : mayN n0 r wss = if badRR n0 wss then 1 else 0 := by
    have h2 : isItemB n0 r = true := by simp [isItemB]; omega
    simp [mayN, h1, h2, h3]
  have Hmay := Lib.hid hmay; clear hmay
  subst h3
  go_enter Try.func12, Try.ntmps12
  go_wp2
  go_loop [34] (fun sv => ∃ k : Nat, k ≤ (wss).length ∧ sv = .int .i64 k ∧ Hid ((wss.take k).any (badR wss.length) = false)) (fun sv => (wss).length - (intOf sv).toNat)
  case atStart => exact ⟨0, Nat.zero_le _, rfl, hid_nil_any _ _⟩
  case round =>
    obtain ⟨k, hkle, rfl, hkinv⟩ := hrel
    by_cases hklt : k < (wss).length
    · obtain ⟨bk, offk, uk, rfl, hbk, hcellk, huk⟩ := Hat.out.lt_ hklt
      obtain ⟨A2, c2, rfl, hm2, hat2⟩ := huk.open_
      have Hat2 := Lib.hid hat2; clear hat2
      go_wp2
      go_loop [40] (fun sv => ∃ j : Nat, j ≤ (wss[k]).length ∧ sv = .int .i64 j ∧ Hid ((wss[k].take j).any (badW wss.length) = false)) (fun sv => (wss[k]).length - (intOf sv).toNat)
      case atStart => exact ⟨0, Nat.zero_le _, rfl, hid_nil_any _ _⟩
      case round =>
        obtain ⟨j, hjle, rfl, hjinv⟩ := hrel
        by_cases hjlt : j < (wss[k]).length
        · obtain ⟨bj, offj, uj, rfl, hbj, hcellj, huj⟩ := Hat2.out.lt_ hjlt
          obtain ⟨A3, c3, rfl, hm3, hat3⟩ := huj.open_
          have Hat3 := Lib.hid hat3; clear hat3
          go_wp2
          go_loop [46] (fun sv => ∃ q : Nat, q ≤ (wss[k][j]).length ∧ sv = .int .i64 q ∧ Hid ((wss[k][j].take q).any (fun n => !isItemB wss.length n) = false)) (fun sv => (wss[k][j]).length - (intOf sv).toNat)
          case atStart => exact ⟨0, Nat.zero_le _, rfl, hid_nil_any _ _⟩
          case round =>
            obtain ⟨q, hqle, rfl, hqinv⟩ := hrel
            by_cases hqlt : q < (wss[k][j]).length
            · obtain ⟨bq, offq, uq, rfl, hbq, hcellq, huq⟩ := Hat3.out.lt_ hqlt
              obtain rfl := huq
              by_cases hx0 : wss[k][j][q] < 0
              · go_wp2
                go_ret
                have hbad : badRR wss.length wss = true := any_at (h := hklt) (any_at (h := hjlt) (any_at (h := hqlt) (by simp [isItemB]; omega)))
                exact ⟨ret_int (by rw [Hmay.out, hbad]; rfl), Hb.out⟩
              by_cases hx1 : (wss.length : Int) ≤ wss[k][j][q]
              · go_wp2
                go_ret
                have hbad : badRR wss.length wss = true := any_at (h := hklt) (any_at (h := hjlt) (any_at (h := hqlt) (by simp [isItemB]; omega)))
                exact ⟨ret_int (by rw [Hmay.out, hbad]; rfl), Hb.out⟩
              · go_wp2
                go_round
                case rel => exact ⟨q + 1, by omega, by go_num, (hid_any_succ hqlt hqinv (by simp [isItemB]; omega))⟩
                case measure => simp [intOf]; omega
            · obtain rfl : q = (wss[k][j]).length := by omega
              go_wp2
              go_round
              case rel => exact ⟨j + 1, by omega, by go_num, (hid_any_succ hjlt hjinv (hid_any_end hqinv))⟩
              case measure => simp [intOf]; omega
        · obtain rfl : j = (wss[k]).length := by omega
          go_wp2
          go_round
          case rel => exact ⟨k + 1, by omega, by go_num, (hid_any_succ hklt hkinv (hid_any_end hjinv))⟩
          case measure => simp [intOf]; omega
    · obtain rfl : k = (wss).length := by omega
      go_wp2
      go_ret
      exact ⟨ret_int (by rw [Hmay.out, badRR, hid_any_end hkinv]; rfl), Hb.out⟩
end Go.Proofs.Ytlaihjhkghbfkaa
