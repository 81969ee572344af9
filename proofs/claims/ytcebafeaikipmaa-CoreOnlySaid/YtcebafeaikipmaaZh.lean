/- decide: the variable that was met most, of those that aren't known. -/
import Derived.Deep.RegionHeld
import Derived.Deep.DeepCutAuto
import Derived.Test.YtcebafeaikipmaaZl
namespace Go.Proofs.Ytcebafeaikipmaa.S15
open Go.RowKit

theorem quiet_of_sat {P : Program} {f : FuncId} {args : Array Value} {w : World} {n : Nat} {v : Value} (h : Calls P f args (w.drewN n) fun e w' => e = .returned v ∧ w' = w.drewN n) : Calls P f args (w.drewN n) fun e w'' => e = .returned v ∧ ∃ m, w'' = w.drewN m :=
  h.mono fun _ _ ⟨he, hm⟩ => ⟨he, n, hm⟩
theorem bestS_lt (s : St) : ∀ (k v b : Nat), b < v → bestS s k v b < v + k ∧ (bestS s k v b = b ∨ v ≤ bestS s k v b) := by
  intro k
  induction k with
  | zero => intro v b h; exact ⟨h, .inl rfl⟩
  | succ k ih =>
    intro v b h
    unfold bestS
    have := ih (v + 1) (if s.val (2 * v) = 0 ∧ (b = 0 ∨ s.act.getD b 0 < s.act.getD v 0) then v else b) (by split <;> omega)
    refine ⟨by omega, ?_⟩
    rcases this.2 with e | e
    · rw [e]; split
      · exact .inr (Nat.le_refl _)
      · exact .inl rfl
    · exact .inr (by omega)
/-- what decide answers -/
def DecOut (w : World) (B S : Nat) (ad : List Nat) (vl : Rl → Value) (s : St) (r : Option St) (e : Ending) (w' : World) : Prop :=
  match r with
  | none => e = .returned (.bool false) ∧ SAt w' B S ad vl s ∧ Stp w B S ad vl w' ad vl
  | some s' => e = .returned (.bool true) ∧ ∃ vl', SAt w' B S ad vl' s' ∧ Stp w B S ad vl w' ad vl'
set_option maxRecDepth 100000 in
set_option maxHeartbeats 8000000 in
theorem decide_any {w : World} {B S : Nat} {ad : List Nat} {vl : Rl → Value} {s : St} (h : SAt w B S ad vl s) (hp : Shp s) (htl : s.trail.length ≤ 10000) (hel : s.ends.length ≤ 10000) :
    Calls Try.prog 56 #[.pointer (some ⟨S, 0, none⟩)] w (DecOut w B S ad vl s (decideS s)) := by
  have hsm := hp.sm
  obtain ⟨R, hR⟩ : ∃ R, R = decideS s := ⟨_, rfl⟩
  rw [← hR]
  obtain ⟨gv, cv, hva, -, -, -, -⟩ := (h.rows .va).form (by simp [cont, hp.va])
  obtain ⟨ga, ca, hac, -, -, -, -⟩ := (h.rows .ac).form (by simp [cont, hp.ac])
  obtain ⟨gp, cp, hph, -, -, -, -⟩ := (h.rows .ph).form (by simp [cont, hp.ph])
  simp only [cont, List.length_map, hp.va, hp.ac, hp.ph] at hva hac hph
  obtain ⟨n, hn⟩ : ∃ n, n = s.vars := ⟨_, rfl⟩
  obtain ⟨K, hK⟩ : ∃ K, K = 2 * (s.vars + 1) := ⟨_, rfl⟩
  obtain ⟨N, hN⟩ : ∃ N, N = s.vars + 1 := ⟨_, rfl⟩
  rw [← hK] at hva
  rw [← hN] at hac hph
  rw [← hn] at hK hN hsm
  have HVs := Lib.hid (fun wr (hr : SAt wr B S ad vl s) => show wr.cell? ⟨S, 0, none⟩ = some (.int .i64 (n : Int)) ∧ wr.cell? ⟨S, 4, none⟩ = some (.slice (some ⟨gv, 0, none⟩) K cv) ∧ wr.cell? ⟨S, 8, none⟩ = some (.slice (some ⟨ga, 0, none⟩) N ca) ∧ wr.cell? ⟨S, 7, none⟩ = some (.slice (some ⟨gp, 0, none⟩) N cp) ∧ (∀ y, y < K → wr.cell? ⟨gv, y, none⟩ = some (.int .u8 (s.val y : Nat))) ∧ (∀ y, y < N → wr.cell? ⟨ga, y, none⟩ = some (.int .i64 (s.act.getD y 0 : Nat)) ∧ wr.cell? ⟨gp, y, none⟩ = some (.bool (s.phase.getD y false))) by
    have e1 := hr.rows .va
    have e2 := hr.rows .ac
    have e3 := hr.rows .ph
    have c1 := hr.cellS (k := 4) (v := vl .va) rfl
    have c2 := hr.cellS (k := 8) (v := vl .ac) rfl
    have c3 := hr.cellS (k := 7) (v := vl .ph) rfl
    have c0 := hr.cellS (k := 0) (v := .int .i64 (s.vars : Int)) rfl
    rw [hva] at e1 c1
    rw [hac] at e2 c2
    rw [hph] at e3 c3
    rw [← hn] at c0
    refine ⟨c0, c1, c2, c3, fun y hy => e1.cell ?_, fun y hy => ⟨e2.cell ?_, e3.cell ?_⟩⟩
    · simp only [cont, List.getElem?_map, St.val, List.getD_eq_getElem?_getD]; rw [List.getElem?_eq_getElem (by rw [hp.va]; omega)]; rfl
    · simp only [cont, List.getElem?_map, List.getD_eq_getElem?_getD]; rw [List.getElem?_eq_getElem (by rw [hp.ac]; omega)]; rfl
    · simp only [cont, List.getElem?_map, List.getD_eq_getElem?_getD]; rw [List.getElem?_eq_getElem (by rw [hp.ph]; omega)]; rfl)
  have H := Lib.hid h
  have Hp := Lib.hid hp
  have HR := Lib.hid hR
  have Hph := Lib.hid hph
  have Hn := Lib.hid hn
  have HKe := Lib.hid hK
  have HNe := Lib.hid hN
  clear h hp hR hn hva hac hph
  go_enter Try.func56, Try.ntmps56
  go_wp2
  go_loopw [4, 3] (fun kv bv wr => ∃ (k b : Nat), k ≤ n ∧ kv = .int .i64 ((k + 1 : Nat) : Int) ∧ bv = .int .i64 (b : Int) ∧ b ≤ k ∧ Hid (SAt wr B S ad vl s) ∧ Hid (Stp w B S ad vl wr ad vl) ∧ Hid (bestS s n 1 0 = bestS s (n - k) (k + 1) b)) (fun kv _ _ => n + 1 - (intOf kv).toNat)
  case atStart => exact ⟨0, 0, Nat.zero_le _, rfl, rfl, Nat.le_refl _, H, Lib.hid (Stp.refl _ _ _ _ _), Lib.hid rfl⟩
  case round =>
    obtain ⟨k, b, hkle, rfl, rfl, hbk, HS, PS, HB⟩ := hrel
    obtain ⟨c0, c4, c8, c7, kv, ka⟩ := HVs.out wr HS.out
    rcases Nat.lt_or_ge k n with hk | hk
    · obtain ⟨v, hv⟩ : ∃ v, v = k + 1 := ⟨_, rfl⟩
      obtain ⟨x, hx⟩ : ∃ x, x = 2 * v := ⟨_, rfl⟩
      have dx := kv x (by omega)
      have dv := (ka v (by omega)).1
      have db := (ka b (by omega)).1
      obtain ⟨y, hy⟩ : ∃ y, y = s.val x := ⟨_, rfl⟩
      obtain ⟨av, hav⟩ : ∃ av, av = s.act.getD v 0 := ⟨_, rfl⟩
      obtain ⟨ab, hab⟩ : ∃ ab, ab = s.act.getD b 0 := ⟨_, rfl⟩
      have HB2 : bestS s n 1 0 = bestS s (n - v) (v + 1) (if y = 0 ∧ (b = 0 ∨ ab < av) then v else b) := by
        rw [HB.out, show n - k = (n - v) + 1 by omega, bestS, ← hv, ← hx, ← hy, ← hav, ← hab]
      rw [← hy] at dx
      rw [← hav] at dv
      rw [← hab] at db
      have Hof := Lib.hid (show ∀ w, Calls Try.prog 58 #[.int .i64 (v : Int)] w fun e w' => e = .returned (.int .i64 (x : Int)) ∧ w' = w from fun w => by have := of_any (v : Int) w (by omega); rw [ofI_nat, ← hx] at this; exact this)
      have hvN : v < N := by omega
      have hbN : b < N := by omega
      have hxK : x < K := by omega
      have hvn : v ≤ n := by omega
      rw [← hv]
      have hvb : v ≤ 100000 := by omega
      have hbv : b ≤ v := by omega
      clear kv ka hx hy hav hab c7 HB hkle hbk hk hv
      have hKe := hK
      have hNe := hN
      clear hKe hNe hK hN
      by_cases hy0 : y = 0
      · have z0 : (((y : Nat) : Int) == 0) = true := by rw [hy0]; rfl
        by_cases hb0 : b = 0
        · have HB3 := Lib.hid (show bestS s n 1 0 = bestS s (n - v) (v + 1) v by rw [HB2, if_pos ⟨hy0, .inl hb0⟩])
          have z1 : (((b : Nat) : Int) == 0) = true := by rw [hb0]; rfl
          clear HB2 hy0 hb0
          go_wp2
          go_quiet ((go_at_call 58; exact quiet_of_sat (Hof.out _)))
          go_wp2
          go_roundw
          case rel => exact ⟨v, v, hvn, by go_num, rfl, by omega, Lib.hid (HS.out.new (below_drewN (Below.refl _ _) _)), Lib.hid (PS.out.trans (HS.out.stpNew (below_drewN (Below.refl _ _) _))), HB3⟩
          case measure => simp [intOf]; omega
        · have z1 : (((b : Nat) : Int) == 0) = false := beq_eq_false_iff_ne.2 (by omega)
          by_cases hlt : ab < av
          · have HB3 := Lib.hid (show bestS s n 1 0 = bestS s (n - v) (v + 1) v by rw [HB2, if_pos ⟨hy0, .inr hlt⟩])
            have z2 : decide ((ab : Int) < (av : Int)) = true := decide_eq_true (by omega)
            have z3 : decide (ab < av) = true := decide_eq_true hlt
            clear HB2 hy0 hb0 hlt
            go_wp2
            go_quiet ((go_at_call 58; exact quiet_of_sat (Hof.out _)))
            go_wp2
            go_roundw
            case rel => exact ⟨v, v, hvn, by go_num, rfl, by omega, Lib.hid (HS.out.new (below_drewN (Below.refl _ _) _)), Lib.hid (PS.out.trans (HS.out.stpNew (below_drewN (Below.refl _ _) _))), HB3⟩
            case measure => simp [intOf]; omega
          · have HB3 := Lib.hid (show bestS s n 1 0 = bestS s (n - v) (v + 1) b by rw [HB2, if_neg (by rintro ⟨-, e | e⟩; exact hb0 e; exact hlt e)])
            have z2 : decide ((ab : Int) < (av : Int)) = false := decide_eq_false (by omega)
            have z3 : decide (ab < av) = false := decide_eq_false hlt
            clear HB2 hy0 hb0 hlt
            go_wp2
            go_quiet ((go_at_call 58; exact quiet_of_sat (Hof.out _)))
            go_wp2
            go_roundw
            case rel => exact ⟨v, b, hvn, by go_num, rfl, by omega, Lib.hid (HS.out.new (below_drewN (Below.refl _ _) _)), Lib.hid (PS.out.trans (HS.out.stpNew (below_drewN (Below.refl _ _) _))), HB3⟩
            case measure => simp [intOf]; omega
      · have HB3 := Lib.hid (show bestS s n 1 0 = bestS s (n - v) (v + 1) b by rw [HB2, if_neg (fun e => hy0 e.1)])
        have z0 : (((y : Nat) : Int) == 0) = false := beq_eq_false_iff_ne.2 (by omega)
        clear HB2 hy0
        go_wp2
        go_quiet ((go_at_call 58; exact quiet_of_sat (Hof.out _)))
        go_wp2
        go_roundw
        case rel => exact ⟨v, b, hvn, by go_num, rfl, by omega, Lib.hid (HS.out.new (below_drewN (Below.refl _ _) _)), Lib.hid (PS.out.trans (HS.out.stpNew (below_drewN (Below.refl _ _) _))), HB3⟩
        case measure => simp [intOf]; omega
    · obtain rfl : k = n := by omega
      rw [Nat.sub_self, bestS] at HB
      have hR := HR.out
      unfold decideS at hR
      have hbs : bestS s s.vars 1 0 = b := by rw [← Hn.out]; exact HB.out
      rw [hbs] at hR
      have HRx := Lib.hid hR
      clear hR hbs HB kv ka c8 c4 c7 hkle hk
      by_cases hb0 : b = 0
      · have Hres := Lib.hid (show R = none by rw [HRx.out]; exact if_pos hb0)
        have z1 : (((b : Nat) : Int) == 0) = true := by rw [hb0]; rfl
        clear HRx hb0 hK hN
        go_wp2
        go_ret
        rw [Hres.out]
        exact ⟨rfl, HS.out, PS.out⟩
      · have hR2 := HRx.out.trans (if_neg hb0)
        have z1 : (((b : Nat) : Int) == 0) = false := beq_eq_false_iff_ne.2 (by omega)
        obtain ⟨ph, hph⟩ : ∃ ph, ph = s.phase.getD b false := ⟨_, rfl⟩
        rw [← hph] at hR2
        have HRd := Lib.hid (show ∀ q : Bool, ph = q → R = some (setS { s with ends := s.ends ++ [s.trail.length] } (if q then 2 * b else 2 * b + 1) none) from fun q hq => by rw [← hq]; exact hR2)
        have Hb7 := Lib.hid (show (cont { s with ends := s.ends ++ [s.trail.length] } ad vl .ph)[b]? = some (.bool ph) by
          rw [hph]; simp only [cont, List.getElem?_map, List.getD_eq_getElem?_getD]; rw [List.getElem?_eq_getElem (by rw [Hp.out.ph, ← Hn.out]; omega)]; rfl)
        have hv1 : 2 * b < s.value.length := by rw [Hp.out.va, ← Hn.out]; omega
        have ntb : nt (2 * b) = 2 * b + 1 := by unfold nt; rw [if_pos (by omega)]
        have ntc : nt (2 * b + 1) = 2 * b := by unfold nt; rw [if_neg (by omega)]; omega
        have hv2 : nt (2 * b) < s.value.length := by rw [ntb, Hp.out.va, ← Hn.out]; omega
        have hv3 : 2 * b / 2 < s.level.length := by rw [Hp.out.le, ← Hn.out]; omega
        have hv4 : 2 * b / 2 < s.reason.length := by rw [Hp.out.re, ← Hn.out]; omega
        have hv5 : s.value.length ≤ 100000 := by rw [Hp.out.va, ← Hn.out]; omega
        have hv6 : 2 * b + 1 < s.value.length := by rw [Hp.out.va, ← Hn.out]; omega
        have hv7 : nt (2 * b + 1) < s.value.length := by rw [ntc]; exact hv1
        have hv8 : (2 * b + 1) / 2 < s.level.length := by rw [Hp.out.le, ← Hn.out]; omega
        have hv9 : (2 * b + 1) / 2 < s.reason.length := by rw [Hp.out.re, ← Hn.out]; omega
        have hbN : b < N := by omega
        have hbb : b ≤ 100000 := by omega
        have Hof := Lib.hid (show ∀ w, Calls Try.prog 58 #[.int .i64 (b : Int)] w fun e w' => e = .returned (.int .i64 ((2 * b : Nat) : Int)) ∧ w' = w from fun w => by have := of_any (b : Int) w (by omega); rw [ofI_nat] at this; exact this)
        have Hnt := Lib.hid (show ∀ w, Calls Try.prog 60 #[.int .i64 ((2 * b : Nat) : Int)] w fun e w' => e = .returned (.int .i64 ((2 * b + 1 : Nat) : Int)) ∧ w' = w from fun w => by have := not_any (2 * b) w (by omega); rw [ntb] at this; exact this)
        obtain ⟨Y, hY⟩ : ∃ Y, Y = 2 * b + 1 := ⟨_, rfl⟩
        obtain ⟨X, hX⟩ : ∃ X, X = 2 * b := ⟨_, rfl⟩
        rw [← hY] at hv6 hv7 hv8 hv9 Hnt HRd
        rw [← hX] at hv1 hv2 hv3 hv4 Hnt Hof HRd
        obtain ⟨At, ct, htr⟩ := (HS.out.rows .tr).shape
        obtain ⟨Ae, ce, hen⟩ := (HS.out.rows .en).shape
        simp only [cont, List.length_map] at htr hen
        have eO := HS.out.rows .en
        have htl2 : s.trail.length ≤ 100000 := by omega
        obtain ⟨t, ht⟩ : ∃ t, t = s.trail.length := ⟨_, rfl⟩
        obtain ⟨m, hm⟩ : ∃ m, m = s.ends.length := ⟨_, rfl⟩
        rw [← ht] at htr htl HRd Hb7
        rw [← hm] at hen hel
        rw [hen] at eO
        have HO := Lib.hid (show OwnG wr B 3 (.slice Ae m ce) (iN s.ends) from eO)
        have c10 := HS.out.cellS (k := 10) (v := vl .tr) rfl
        rw [htr] at c10
        have c11 := HS.out.cellS (k := 11) (v := vl .en) rfl
        rw [hen] at c11
        have Htr := Lib.hid htr
        have Hen := Lib.hid hen
        have Ht := Lib.hid ht
        have Hm := Lib.hid hm
        have hml : s.ends.length ≤ 10000 := by omega
        have hsz := HS.out.size
        have hSl := HS.out.lt
        have c10a : ((wr.alloc (.cells #[.int .i64 (t : Int)] 3)).drew).cell? ⟨S, 10, none⟩ = _ := (World.cell?_of_block (a := ⟨S, 10, none⟩) (Below.heap_alloc wr _ S hSl)).trans c10
        clear hX hY hR2 hph HRx hb0 ntb ntc eO htr hen ht hm hK hN hbk
        go_upto_region 9 with fail
        clear c0
        refine wp_region_held_drew (S := (fun w' => w'.cell? ⟨S, 10, none⟩ = some (.slice At t ct))) (by kernel_rfl) c10 (fun hHeld => ?_)
        refine wpAnyH_take (i := 0) (v := ?_) rfl (by kernel_rfl) (by kernel_rfl) (by kernel_rfl) (fun _ _ _ h => h) (Or.inl ⟨by rfl, ?_⟩) (by assumption) ?_
        rotate_left
        · intro w1 hSw
          (try dsimp only at hSw)
          go_simp
          (try with_reducible rfl)
        (try simp only [Act.put, List.setIfInBounds_toArray])
        refine wpAnyH_take (i := 1) (v := ?_) rfl (by kernel_rfl) (by kernel_rfl) (by kernel_rfl) (fun _ _ _ h => h) (Or.inl ⟨by rfl, ?_⟩) (by assumption) ?_
        rotate_left
        · intro w1 hSw
          (try dsimp only at hSw)
          go_simp
          (try with_reducible rfl)
        (try simp only [Act.put])
        refine wpAnyH_take (i := 2) (v := ?_) rfl (by kernel_rfl) (by kernel_rfl) (by kernel_rfl) (fun _ _ _ h => h) (Or.inl ⟨by rfl, ?_⟩) (by assumption) ?_
        rotate_left
        · intro w1 hSw
          (try dsimp only at hSw)
          go_simp
          (try with_reducible rfl)
        (try simp only [Act.put])
        refine wpAnyH_take (i := 3) (v := ?_) rfl (by kernel_rfl) (by kernel_rfl) (by kernel_rfl) (fun _ _ _ h => h) (Or.inl ⟨by rfl, ?_⟩) (by assumption) ?_
        rotate_left
        · intro w1 hSw
          (try dsimp only at hSw)
          go_simp
          (try with_reducible rfl)
        (try simp only [Act.put])
        refine wpAnyH_take (i := 5) (v := ?_) rfl (by kernel_rfl) (by kernel_rfl) (by kernel_rfl) (fun _ _ _ h => h) (Or.inl ⟨by rfl, ?_⟩) (by assumption) ?_
        rotate_left
        · intro w1 hSw
          (try dsimp only at hSw)
          go_simp
          (try with_reducible rfl)
        (try simp only [Act.put])
        refine wpAnyH_take (i := 6) (v := ?_) rfl (by kernel_rfl) (by kernel_rfl) (by kernel_rfl) (fun _ _ _ h => h) (Or.inl ⟨by rfl, ?_⟩) (by assumption) ?_
        rotate_left
        · intro w1 hSw
          (try dsimp only at hSw)
          go_simp
          (try with_reducible rfl)
        (try simp only [Act.put])
        refine wpAnyH_take (i := 7) (v := ?_) rfl (by kernel_rfl) (by kernel_rfl) (by kernel_rfl) (fun _ _ _ h => h) (Or.inl ⟨by rfl, ?_⟩) (by assumption) ?_
        rotate_left
        · intro w1 hSw
          (try dsimp only at hSw)
          go_simp
          (try with_reducible rfl)
        (try simp only [Act.put])
        refine wpAnyH_take (i := 8) (v := ?_) rfl (by kernel_rfl) (by kernel_rfl) (by kernel_rfl) (fun _ _ _ h => h) (Or.inl ⟨by rfl, ?_⟩) (by assumption) ?_
        rotate_left
        · intro w1 hSw
          (try dsimp only at hSw)
          go_simp
          (try with_reducible rfl)
        (try simp only [Act.put])
        refine wpAnyH_take (i := 9) (v := ?_) rfl (by kernel_rfl) (by kernel_rfl) (by kernel_rfl) (fun _ _ _ h => h) (Or.inl ⟨by rfl, ?_⟩) (by assumption) ?_
        rotate_left
        · intro w1 hSw
          (try dsimp only at hSw)
          go_simp
          (try with_reducible rfl)
        (try simp only [Act.put])
        refine wpAnyH_ready (rs := [4, 10]) (by kernel_rfl) (by simp) ?_
        refine AllReadyH.cons rfl (fun K hK => ?_) (AllReadyH.cons rfl (fun K hK => ?_) AllReadyH.nil)
        · skip
          go_simp
          refine hK.out _ _ c10 (fun hHeld => ?_)
          clear hK K
          (try simp only [Act.put, List.setIfInBounds_toArray, List.set_cons_zero, List.set_cons_succ])
          refine wpAnyH_ready (rs := [10]) (by kernel_rfl) (by simp) ?_
          refine AllReadyH.cons rfl (fun K hK => ?_) AllReadyH.nil
          go_simp
          refine hK.out _ _ c10a (fun hHeld => ?_)
          clear hK K
          (try simp only [Act.put, List.setIfInBounds_toArray, List.set_cons_zero, List.set_cons_succ])
          refine wpAnyH_ready (rs := [11]) (by kernel_rfl) (by simp) ?_
          refine AllReadyH.cons rfl (fun K hK => ?_) AllReadyH.nil
          refine step_pushG (by rfl) _ _ _ (by rfl) eInt (v := .slice Ae m ce) (by rfl) (HO.out.kp fun _ _ => kp_new (below_alloc _ _) _) wr.heap.size (.int .i64 (t : Int)) (by rfl) (one_new wr _ _) (by rfl) (by simp; omega) (by simp; omega) ?_
          intro v' w5 hown hg hn
          rw [← Hen.out] at hg hn
          obtain ⟨A', c', rfl⟩ := hown.shape
          obtain ⟨q1, q2, q3⟩ := HS.out.pushSl .en 11 (below_alloc wr (.cells #[.int .i64 (t : Int)] 3)).drew { s with ends := s.ends ++ [t] } hown hg hn (by simp [cont]) (fun r hr => by cases r <;> first | rfl | exact absurd rfl hr | (simp [cont, updV]; done)) rfl rfl (fun _ _ => rfl)
          have j11 : w5.cell? ⟨S, 11, none⟩ = some (vl .en) := cell_of_row w5 S 11 _ _ (0, 0) q3
          have j10 : w5.cell? ⟨S, 10, none⟩ = some (vl .tr) := cell_of_row w5 S 10 _ _ (0, 0) q3
          rw [Htr.out] at j10
          rw [Hen.out] at j11
          have jf := frozen_of_row w5 S 11 _ _ q3
          have H7 := Lib.hid q1
          have P7 := Lib.hid (PS.out.trans q2)
          clear q1 q2 q3 hown hg hn
          refine hK.out _ _ j10 (fun hHeld => ?_)
          clear hK K
          (try simp only [Act.put, List.setIfInBounds_toArray])
          refine wpAnyH_take (i := 12) (v := ?_) rfl (by kernel_rfl) (by kernel_rfl) (by kernel_rfl) (fun _ _ _ h => h) (Or.inl ⟨by rfl, ?_⟩) (by assumption) ?_
          rotate_left
          · intro w1 hSw
            (try dsimp only at hSw)
            go_simp
            (try with_reducible rfl)
          (try simp only [Act.put])
          refine wpAnyH_take (i := 13) (v := ?_) rfl (by kernel_rfl) (by kernel_rfl) (by kernel_rfl) (fun _ _ _ h => h) (Or.inl ⟨by rfl, ?_⟩) (by assumption) ?_
          rotate_left
          · intro w1 hSw
            (try dsimp only at hSw)
            go_simp
            (try with_reducible rfl)
          (try simp only [Act.put])
          refine wpAnyH_ready (rs := [14]) (by kernel_rfl) (by simp) ?_
          refine AllReadyH.cons rfl (fun K hK => ?_) AllReadyH.nil
          go_simp
          refine hK.out _ _ ((World.cell?_setCell_other _ _ _ _ (by simp)).trans j10) (fun hHeld => ?_)
          clear hK K
          (try simp only [Act.put, List.setIfInBounds_toArray, List.set_cons_zero, List.set_cons_succ])
          refine wpAnyH_done (by kernel_rfl) ?_ _
          rw [List.length_append, List.length_map, List.length_singleton] at H7 P7
          clear c10 c11 c10a j10 j11 jf
          obtain ⟨w6, hw6⟩ : ∃ w6, w6 = w5.setCell ⟨S, 11, none⟩ (.slice A' (s.ends.length + 1) c') := ⟨_, rfl⟩
          rw [← hw6] at H7 P7 ⊢
          clear hw6
          have c7 := H7.out.cellS (k := 7) (v := vl .ph) rfl
          rw [Hph.out] at c7
          have e7 := H7.out.rows .ph
          rw [updV_ne _ _ (by simp), Hph.out] at e7
          have d7 : w6.cell? ⟨gp, b, none⟩ = some (.bool ph) := e7.cell (Hb7.out)
          clear e7
          have hno : oC ad none = .pointer none := rfl
          have HSt := Lib.hid (fun x (h1 : x < s.value.length) (h2 : nt x < s.value.length) (h3 : x / 2 < s.level.length) (h4 : x / 2 < s.reason.length) => set_any H7.out x none h1 h2 h3 h4 hv5 htl2)
          rw [hno] at HSt
          cases ph with
          | true =>
            go_wp2_with (first
              | (go_at_call 58; with_reducible refine (Hof.out _).mono ?_; rintro e w8 ⟨rfl, rfl⟩)
              | (go_at_call 48; with_reducible refine (HSt.out X hv1 hv2 hv3 hv4).mono ?_; rintro e w9 ⟨rfl, v9, h9, p9⟩; (have H9 := Lib.hid h9; have P9 := Lib.hid (P7.out.trans p9); clear h9 p9)))
            go_ret
            rw [HRd.out true rfl]
            exact ⟨rfl, _, H9.out, P9.out⟩
          | false =>
            go_wp2_with (first
              | (go_at_call 58; with_reducible refine (Hof.out _).mono ?_; rintro e w8 ⟨rfl, rfl⟩)
              | (go_at_call 60; with_reducible refine (Hnt.out _).mono ?_; rintro e w8 ⟨rfl, rfl⟩)
              | (go_at_call 48; with_reducible refine (HSt.out Y hv6 hv7 hv8 hv9).mono ?_; rintro e w9 ⟨rfl, v9, h9, p9⟩; (have H9 := Lib.hid h9; have P9 := Lib.hid (P7.out.trans p9); clear h9 p9)))
            go_ret
            rw [HRd.out false rfl]
            exact ⟨rfl, _, H9.out, P9.out⟩
        · skip
          go_simp
          refine hK.out _ _ c10a (fun hHeld => ?_)
          clear hK K
          (try simp only [Act.put, List.setIfInBounds_toArray, List.set_cons_zero, List.set_cons_succ])
          refine wpAnyH_ready (rs := [4]) (by kernel_rfl) (by simp) ?_
          refine AllReadyH.cons rfl (fun K hK => ?_) AllReadyH.nil
          go_simp
          refine hK.out _ _ c10a (fun hHeld => ?_)
          clear hK K
          (try simp only [Act.put, List.setIfInBounds_toArray, List.set_cons_zero, List.set_cons_succ])
          refine wpAnyH_ready (rs := [11]) (by kernel_rfl) (by simp) ?_
          refine AllReadyH.cons rfl (fun K hK => ?_) AllReadyH.nil
          refine step_pushG (by rfl) _ _ _ (by rfl) eInt (v := .slice Ae m ce) (by rfl) (HO.out.kp fun _ _ => kp_new (below_alloc _ _) _) wr.heap.size (.int .i64 (t : Int)) (by rfl) (one_new wr _ _) (by rfl) (by simp; omega) (by simp; omega) ?_
          intro v' w5 hown hg hn
          rw [← Hen.out] at hg hn
          obtain ⟨A', c', rfl⟩ := hown.shape
          obtain ⟨q1, q2, q3⟩ := HS.out.pushSl .en 11 (below_alloc wr (.cells #[.int .i64 (t : Int)] 3)).drew { s with ends := s.ends ++ [t] } hown hg hn (by simp [cont]) (fun r hr => by cases r <;> first | rfl | exact absurd rfl hr | (simp [cont, updV]; done)) rfl rfl (fun _ _ => rfl)
          have j11 : w5.cell? ⟨S, 11, none⟩ = some (vl .en) := cell_of_row w5 S 11 _ _ (0, 0) q3
          have j10 : w5.cell? ⟨S, 10, none⟩ = some (vl .tr) := cell_of_row w5 S 10 _ _ (0, 0) q3
          rw [Htr.out] at j10
          rw [Hen.out] at j11
          have jf := frozen_of_row w5 S 11 _ _ q3
          have H7 := Lib.hid q1
          have P7 := Lib.hid (PS.out.trans q2)
          clear q1 q2 q3 hown hg hn
          refine hK.out _ _ j10 (fun hHeld => ?_)
          clear hK K
          (try simp only [Act.put, List.setIfInBounds_toArray])
          refine wpAnyH_take (i := 12) (v := ?_) rfl (by kernel_rfl) (by kernel_rfl) (by kernel_rfl) (fun _ _ _ h => h) (Or.inl ⟨by rfl, ?_⟩) (by assumption) ?_
          rotate_left
          · intro w1 hSw
            (try dsimp only at hSw)
            go_simp
            (try with_reducible rfl)
          (try simp only [Act.put])
          refine wpAnyH_take (i := 13) (v := ?_) rfl (by kernel_rfl) (by kernel_rfl) (by kernel_rfl) (fun _ _ _ h => h) (Or.inl ⟨by rfl, ?_⟩) (by assumption) ?_
          rotate_left
          · intro w1 hSw
            (try dsimp only at hSw)
            go_simp
            (try with_reducible rfl)
          (try simp only [Act.put])
          refine wpAnyH_ready (rs := [14]) (by kernel_rfl) (by simp) ?_
          refine AllReadyH.cons rfl (fun K hK => ?_) AllReadyH.nil
          go_simp
          refine hK.out _ _ ((World.cell?_setCell_other _ _ _ _ (by simp)).trans j10) (fun hHeld => ?_)
          clear hK K
          (try simp only [Act.put, List.setIfInBounds_toArray, List.set_cons_zero, List.set_cons_succ])
          refine wpAnyH_done (by kernel_rfl) ?_ _
          rw [List.length_append, List.length_map, List.length_singleton] at H7 P7
          clear c10 c11 c10a j10 j11 jf
          obtain ⟨w6, hw6⟩ : ∃ w6, w6 = w5.setCell ⟨S, 11, none⟩ (.slice A' (s.ends.length + 1) c') := ⟨_, rfl⟩
          rw [← hw6] at H7 P7 ⊢
          clear hw6
          have c7 := H7.out.cellS (k := 7) (v := vl .ph) rfl
          rw [Hph.out] at c7
          have e7 := H7.out.rows .ph
          rw [updV_ne _ _ (by simp), Hph.out] at e7
          have d7 : w6.cell? ⟨gp, b, none⟩ = some (.bool ph) := e7.cell (Hb7.out)
          clear e7
          have hno : oC ad none = .pointer none := rfl
          have HSt := Lib.hid (fun x (h1 : x < s.value.length) (h2 : nt x < s.value.length) (h3 : x / 2 < s.level.length) (h4 : x / 2 < s.reason.length) => set_any H7.out x none h1 h2 h3 h4 hv5 htl2)
          rw [hno] at HSt
          cases ph with
          | true =>
            go_wp2_with (first
              | (go_at_call 58; with_reducible refine (Hof.out _).mono ?_; rintro e w8 ⟨rfl, rfl⟩)
              | (go_at_call 48; with_reducible refine (HSt.out X hv1 hv2 hv3 hv4).mono ?_; rintro e w9 ⟨rfl, v9, h9, p9⟩; (have H9 := Lib.hid h9; have P9 := Lib.hid (P7.out.trans p9); clear h9 p9)))
            go_ret
            rw [HRd.out true rfl]
            exact ⟨rfl, _, H9.out, P9.out⟩
          | false =>
            go_wp2_with (first
              | (go_at_call 58; with_reducible refine (Hof.out _).mono ?_; rintro e w8 ⟨rfl, rfl⟩)
              | (go_at_call 60; with_reducible refine (Hnt.out _).mono ?_; rintro e w8 ⟨rfl, rfl⟩)
              | (go_at_call 48; with_reducible refine (HSt.out Y hv6 hv7 hv8 hv9).mono ?_; rintro e w9 ⟨rfl, v9, h9, p9⟩; (have H9 := Lib.hid h9; have P9 := Lib.hid (P7.out.trans p9); clear h9 p9)))
            go_ret
            rw [HRd.out false rfl]
            exact ⟨rfl, _, H9.out, P9.out⟩
end Go.Proofs.Ytcebafeaikipmaa.S15
