/- The reference's value, by induction on how many more may be open. -/
import Derived.Test.YtpgdioopkcfjdaaPrS2
namespace Go.Proofs.Ytpgdioopkcfjdaa
open Go.RowKit

set_option maxRecDepth 100000 in
set_option maxHeartbeats 4000000 in
theorem rvalue_done {KP : Nat → Prop} {KW : World} {B X : Nat} {lv : Value} {L : PL} {d : Nat} (way : List Bs) (done : PL) (n v : Bs) (w : World) (dv ov : Value) (hdn : DoneOK L done) (hr : RefAt KP KW w B X lv L dv done 0 [] ov way) (hv : lookP done n = some v) :
    Calls Try.prog 38 #[.pointer (some ⟨X, 0, none⟩), sv n] w (ROut KP KW B X lv L way w (valP L d way done n)) := by
  rw [valP_done hv]
  have hvl : v.length ≤ 4096 := hdn.2.2 _ (look_mem hv)
  rcases lookP_idx done n with ⟨i, hi, hix, hlk, -⟩ | ⟨hix, hlk⟩
  · obtain rfl : done[i].2 = v := Option.some.inj (hlk.symm.trans hv)
    obtain ⟨g, cap, rfl, -, -⟩ := hr.done.form (by omega)
    obtain ⟨-, k1, -, -, -, -⟩ := hr.cells
    have HA := Lib.hid (At_any _ done n w (props_of_own (S := Lt w.heap.size) hr.done fun g hg => (hr.done.lt g hg).2))
    rw [hix] at HA
    have HR := Lib.hid hr
    clear hr hix hlk hdn hv
    go_enter Try.func38, Try.ntmps38
    go_wp2_with (go_at_call 19; (with_reducible refine HA.out.mono ?_); rintro e w1 ⟨rfl, h1⟩; (have HR1 := Lib.hid (HR.out.new h1); have HB1 := Lib.hid (h1.mono HR.out.size); have k2 := HR1.out.cells.2.1; have c1 := World.ownsRow.cells HR1.out.done (g := g) rfl (i * 2 + 1) _ (pcellsL_at hi).2; rw [add_none, Nat.zero_add] at c1; clear h1))
    go_ret
    exact ⟨_, _, ov, way, rfl, by omega, HR1.out, HB1.out, fun v' hv' => by cases hv'; exact ⟨rfl, rfl⟩⟩
  · rw [hlk] at hv; cases hv
set_option maxRecDepth 100000 in
set_option maxHeartbeats 8000000 in
theorem rvalue_new {KP : Nat → Prop} {KW : World} {B X : Nat} {lv : Value} {L : PL} {d : Nat} (hV : ∀ d', d = d' + 1 → RVal KP KW B X lv L d') (hL : ∀ p ∈ L, p.2.length ≤ 1000000) (hll : L.length ≤ 1000) (way : List Bs) (done : PL) (n : Bs) (w : World) (dv ov : Value) (hwd : way.length + d = 32) (hlk : (lookP L n).isSome = true) (hway : WayOK way done) (hdn : DoneOK L done) (hr : RefAt KP KW w B X lv L dv done 0 [] ov way) (hv : lookP done n = none) :
    Calls Try.prog 38 #[.pointer (some ⟨X, 0, none⟩), sv n] w (ROut KP KW B X lv L way w (valP L d way done n)) := by
  obtain ⟨R, hR⟩ : ∃ R, R = valP L d way done n := ⟨_, rfl⟩
  rw [← hR]
  have hix : idxP done n = -1 := by
    rcases lookP_idx done n with ⟨i, hi, hix, h2, -⟩ | ⟨hix, h2⟩
    · rw [h2] at hv; cases hv
    · exact hix
  have HA := Lib.hid (At_any dv done n w (props_of_own (S := Lt w.heap.size) hr.done fun g hg => (hr.done.lt g hg).2))
  rw [hix] at HA
  obtain ⟨A, c, rfl, hmL, -⟩ := hr.props.open_
  obtain ⟨Ao, co, rfl⟩ := own_shape hr.own
  obtain ⟨-, k1, -, -, k5, -⟩ := hr.cells
  have HR := Lib.hid hr
  have HL := Lib.hid hL
  have HV := Lib.hid hV
  have HRR := Lib.hid hR
  have Hway := Lib.hid hway
  have Hdn := Lib.hid hdn
  have Hv := Lib.hid hv
  have c0 : (⟨#[]⟩ : ByteArray) = bz [] := rfl
  clear hr hix hL hV hR hway hdn hv
  go_enter Try.func38, Try.ntmps38
  go_wp2_with (go_at_call 19; with_reducible refine HA.out.mono ?_; rintro e w1 ⟨rfl, h1⟩; (have HR1 := Lib.hid (HR.out.new h1); have HB1 := Lib.hid (h1.mono HR.out.size); have k6 := HR1.out.cells.2.2.2.2.1; clear h1 k1 k5))
  have HT := Lib.hid (txs_of_own HR1.out.own fun g hg => (HR1.out.own.lt g hg).2)
  clear c0
  go_loop [30] (fun kv => ∃ k : Nat, k ≤ way.length ∧ kv = .int .i64 k ∧ Hid (¬ n ∈ way.take k)) (fun kv => way.length - (intOf kv).toNat)
  case atStart => exact ⟨0, Nat.zero_le _, rfl, Lib.hid (by simp)⟩
  case round =>
    obtain ⟨k, hkle, rfl, Hk⟩ := hrel
    have c0 : (⟨#[]⟩ : ByteArray) = bz [] := rfl
    rcases Nat.lt_or_ge k way.length with hk | hk
    · obtain ⟨A2, c2, e2, hm2, hat2⟩ := HT.out.open_
      injection e2 with e2 e3 e4
      subst e2
      subst e4
      obtain ⟨bq, offq, rfl, hbq, hcq⟩ := hat2 (by omega)
      obtain ⟨uq, y0, hu⟩ := hcq k hk
      obtain rfl := hu
      clear hcq hat2
      by_cases hq : way[k] = n
      · have eN : ((bz way[k]).toList == (bz n).toList) = true := by rw [bz_beq, hq]; simp
        have Hres := Lib.hid (show R = (.loop n, done) from HRR.out.trans (valP_loop Hv.out (by rw [← hq]; exact List.getElem_mem hk)))
        clear hq
        go_wp2_with (go_at_call 46; with_reducible refine (fail_any 22 n HR1.out).mono ?_; rintro e w2 ⟨rfl, h1, h2⟩; (have HR2 := Lib.hid h1; have HB2 := Lib.hid (HB1.out.trans h2); clear h1 h2))
        go_ret
        exact ⟨[], dv, _, way, rfl, by simp, by rw [Hres.out]; exact HR2.out, HB2.out, fun v hv => by rw [Hres.out] at hv; cases hv⟩
      · have eN : ((bz way[k]).toList == (bz n).toList) = false := by rw [bz_beq]; exact beq_eq_false_iff_ne.2 hq
        have Hk' := Lib.hid (show ¬ n ∈ way.take (k + 1) by
          rw [List.take_succ_eq_append_getElem hk, List.mem_append, List.mem_singleton]
          rintro (h | h)
          · exact Hk.out h
          · exact hq h.symm)
        clear hq
        go_wp2
        go_round
        case rel => exact ⟨k + 1, by omega, by go_num, Hk'⟩
        case measure => simp [intOf]; omega
    · obtain rfl : k = way.length := by omega
      rw [List.take_length] at Hk
      cases d with
      | zero =>
        have Hres := Lib.hid (show R = (.big n, done) from HRR.out.trans (valP_big Hv.out Hk.out))
        have hl32 : way.length = 32 := by omega
        go_wp2_with (go_at_call 46; with_reducible refine (fail_any 2 n HR1.out).mono ?_; rintro e w2 ⟨rfl, h1, h2⟩; (have HR2 := Lib.hid h1; have HB2 := Lib.hid (HB1.out.trans h2); clear h1 h2))
        go_ret
        exact ⟨[], dv, _, way, rfl, by simp, by rw [Hres.out]; exact HR2.out, HB2.out, fun v hv => by rw [Hres.out] at hv; cases hv⟩
      | succ d =>
        obtain ⟨i, hi, hix, hlk2⟩ : ∃ i, ∃ hi : i < L.length, idxP L n = i ∧ lookP L n = some L[i].2 := by
          rcases lookP_idx L n with ⟨i, hi, hix, h2, -⟩ | ⟨-, h2⟩
          · exact ⟨i, hi, hix, h2⟩
          · rw [h2] at hlk; cases hlk
        obtain ⟨x, dn, hx⟩ : ∃ x dn, txtP (fun done m => valP L d (way ++ [n]) done m) L n done [] L[i].2 = (x, dn) := ⟨_, _, rfl⟩
        have Hres0 : R = match (x, dn) with | (.ok v, done') => (.ok v, done' ++ [(n, v)]) | (x, done') => (x, done') := by rw [HRR.out, valP_go Hv.out Hk.out, hlk2, Option.getD_some, hx]; cases x <;> rfl
        have Hres := Lib.hid Hres0
        have Hx := Lib.hid hx
        have Hix := Lib.hid hix
        have Hdl := Lib.hid (done_len Hdn.out)
        have Hk2 := Lib.hid (wayOK_snoc Hway.out Hv.out)
        have Hd2 := Lib.hid (show DoneOK L dn by have := txtP_doneOK (me := n) (s := L[i].2) (d := d) Hk2.out Hdn.out; rwa [hx] at this)
        have Hval := Lib.hid (HL.out L[i] (List.getElem_mem hi))
        have hlt32 : way.length < 32 := by omega
        clear hlk2 hx hix Hres0
        go_wp2_with (at_builtin; refine wpList_push rfl _ _ _ rfl eStr (v := .slice Ao way.length co) rfl (HR1.out.own.alloc _) w1.heap.size (sv n) rfl (one_new w1 _ _) rfl (by omega) (by have := HR1.out.size; simp; omega) ?_; intro v1 w5 hown1 hg1 hat1; obtain ⟨A1, c1, rfl⟩ := own_shape hown1; obtain ⟨q1, q2, q3⟩ := HR1.out.pushO hown1 hg1 hat1; (have j5 : w5.cell? ⟨X, 5, none⟩ = some (.slice Ao way.length co) := cell_of_row _ _ _ _ _ (0, 0) q3; have jf : ∀ i, w5.frozen? ⟨X, i, none⟩ = false := fun _ => frozen_of_row _ _ _ _ _ q3; have HR6 := Lib.hid q1; have HB6 := Lib.hid (HB1.out.trans q2); clear q1 q2 q3 hown1 hg1 hat1))
        obtain ⟨w6, hw6⟩ : ∃ w6, w6 = w5.setCell ⟨X, 5, none⟩ (.slice A1 (way.length + 1) c1) := ⟨_, rfl⟩
        rw [← hw6] at HR6 HB6 ⊢
        clear hw6 j5 jf
        obtain ⟨l0, -, -, -, l5, -⟩ := HR6.out.cells
        have HA6 := Lib.hid (fun w' (hb : Below w6.heap.size w6 w') => At_any (.slice A L.length c) L n w' (RProps.stable.sub (HR6.out.new hb).props fun b hb2 => Nat.lt_of_lt_of_le hb2 (HR6.out.new hb).size))
        rw [Hix.out] at HA6
        go_wp2_with fail
        go_region_law (first
          | (go_simp
             go_at_call 19
             refine (HA6.out _ (Below.refl _ _).drew).mono ?_
             rintro e w7 ⟨rfl, h1⟩
             have HR7 := Lib.hid (HR6.out.new ((Below.refl _ _).drew.trans (h1.mono (Nat.le_refl _))))
             have HB7 := Lib.hid (HB6.out.trans (((Below.refl _ _).drew.trans (h1.mono (Nat.le_refl _))).mono HR6.out.size))
             obtain ⟨A9, c9, e9, -, hat9⟩ := HR7.out.props.open_
             injection e9 with e9 _ e10
             subst e9
             subst e10
             obtain ⟨b9, off9, rfl, hb9, d0, d1⟩ := prop_cells hat9 hi
             have m0 := HR7.out.cells.1
             clear hat9 h1)
          | (go_simp
             go_at_call 32
             refine (text_ref (HV.out d rfl) (way ++ [n]) done L[i].2 n _ dv _ (by simp; omega) Hk2.out Hdn.out HR7.out Hval.out).mono ?_
             intro e w8 ho
             rw [Hx.out] at ho
             obtain ⟨y, dv8, ov8, way8, rfl, hyl, h1, h2, h3⟩ := ho
             have HR8 := Lib.hid h1
             have HB8 := Lib.hid (HB7.out.trans h2)
             have H8 := Lib.hid h3
             clear h1 h2 h3))
        all_goals
          clear l0 l5 m0 d0 d1
          cases x with
          | loop m =>
            have HR9 := Lib.hid (show RefAt KP KW w8 B X _ L dv8 dn 22 m ov8 way8 from HR8.out)
            have p2 := HR9.out.cells.2.2.1
            have Hres9 := Lib.hid (show R = (.loop m, dn) from Hres.out)
            have p3 : ((22 : Int) == 0) = false := rfl
            clear HR8 H8
            go_wp2
            go_ret
            exact ⟨y, dv8, ov8, way8, rfl, hyl, by rw [Hres9.out]; exact HR9.out, HB8.out, fun v hv => by rw [Hres9.out] at hv; cases hv⟩
          | big m =>
            have HR9 := Lib.hid (show RefAt KP KW w8 B X _ L dv8 dn 2 m ov8 way8 from HR8.out)
            have p2 := HR9.out.cells.2.2.1
            have Hres9 := Lib.hid (show R = (.big m, dn) from Hres.out)
            have p3 : ((2 : Int) == 0) = false := rfl
            clear HR8 H8
            go_wp2
            go_ret
            exact ⟨y, dv8, ov8, way8, rfl, hyl, by rw [Hres9.out]; exact HR9.out, HB8.out, fun v hv => by rw [Hres9.out] at hv; cases hv⟩
          | ok v =>
            obtain ⟨rfl, rfl⟩ := H8.out v rfl
            have HR9 := Lib.hid (show RefAt KP KW w8 B X _ L dv8 dn 0 [] ov8 (way ++ [n]) from HR8.out)
            have Hres9 := Lib.hid (show R = (.ok v, dn ++ [(n, v)]) from Hres.out)
            have hown := HR9.out.own
            rw [List.length_append, List.length_singleton] at hown
            obtain ⟨g, cap, rfl, -, -⟩ := hown.form (by omega)
            have hcap := own_cap hown
            obtain ⟨-, -, p2, -, p5, pf⟩ := HR9.out.cells
            clear HR8 H8 hown
            have hwr : IntKind.i64.wrap (((way.length + 1 : Nat) : Int) - 1) = (way.length : Nat) := wrap_nat (by omega) (by omega)
            have hwr2 : IntKind.i64.wrap (((way.length : Nat) : Int) + 1 - 1) = (way.length : Nat) := wrap_nat (by omega) (by omega)
            have hwr3 : IntKind.i64.wrap ((way.length : Nat) : Int) = (way.length : Nat) := wrap_nat rfl (by omega)
            have hle1 : way.length ≤ cap := by omega
            go_wp2
            go_region
            obtain ⟨w9, hw9⟩ : ∃ w9, w9 = (w8.setCell ⟨X, 5, none⟩ (.slice (some ⟨g, 0, none⟩) way.length cap)).drew := ⟨_, rfl⟩
            rw [← hw9]
            obtain ⟨t8, b8⟩ := HR9.out.popO
            have HR10 := Lib.hid (show RefAt KP KW w9 B X _ L dv8 dn 0 [] (.slice (some ⟨g, 0, none⟩) way.length cap) way by rw [hw9]; exact t8.new (Below.refl _ _).drew)
            have HB10 := Lib.hid (show Below B w w9 by rw [hw9]; exact (HB8.out.trans b8).drew)
            clear t8 b8 hw9 p2 p5 pf
            have r1 := HR10.out.cells.2.1
            have Hdl2 := Lib.hid (done_len Hd2.out)
            go_wp2_with (at_builtin; refine wpList_pushP rfl _ _ rfl (v := dv8) rfl (HR10.out.done.alloc _) w9.heap.size (n, v) rfl (two_new _ _ _ _).1 (two_new _ _ _ _).2 (by have := Hdl2.out; omega) (by have := HR10.out.size; simp; omega) ?_; intro v10 w10 hown10 hg10 hat10; obtain ⟨A11, c11, rfl⟩ := hown10.shape; obtain ⟨q1, q2, q3⟩ := HR10.out.pushD hown10 hg10 hat10; (have j1 : w10.cell? ⟨X, 1, none⟩ = some dv8 := cell_of_row _ _ _ _ _ (0, 0) q3; have jf : ∀ i, w10.frozen? ⟨X, i, none⟩ = false := fun _ => frozen_of_row _ _ _ _ _ q3; have HR11 := Lib.hid q1; have HB11 := Lib.hid (HB10.out.trans q2); clear q1 q2 q3 hown10 hg10 hat10))
            go_ret
            rw [List.length_append, List.length_singleton] at HR11 HB11
            exact ⟨v, _, _, way, rfl, hyl, by rw [Hres9.out]; exact HR11.out, HB11.out, fun v' hv' => by rw [Hres9.out] at hv'; cases hv'; exact ⟨rfl, rfl⟩⟩
theorem rval {KP : Nat → Prop} {KW : World} {B X : Nat} {lv : Value} {L : PL} (hL : ∀ p ∈ L, p.2.length ≤ 1000000) (hll : L.length ≤ 1000) : ∀ d, RVal KP KW B X lv L d := by
  intro d
  induction d with
  | zero =>
    intro way done n w dv ov hwd hlk hway hdn hr _
    cases hv : lookP done n with
    | some v => exact rvalue_done way done n v w dv ov hdn hr hv
    | none => exact rvalue_new (d := 0) (fun _ h => by omega) hL hll way done n w dv ov hwd hlk hway hdn hr hv
  | succ d ih =>
    intro way done n w dv ov hwd hlk hway hdn hr _
    cases hv : lookP done n with
    | some v => exact rvalue_done way done n v w dv ov hdn hr hv
    | none => exact rvalue_new (d := d + 1) (fun d' h => by obtain rfl : d' = d := by omega
                                                            exact ih) hL hll way done n w dv ov hwd hlk hway hdn hr hv
end Go.Proofs.Ytpgdioopkcfjdaa
