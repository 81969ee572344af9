/- keep: a learned clause, and what follows of it. / search: of clauses that are there. -/
import Derived.Deep.DeepCutAuto
import Derived.Deep.LoopGhost
import Derived.Deep.RegionHeld3
import Derived.Test.YtcebafeaikipmaaQSaW11
import Derived.Test.YtcebafeaikipmaaQSaW12
import Derived.Test.YtcebafeaikipmaaZd
import Derived.Test.YtcebafeaikipmaaZf
import Derived.Test.YtcebafeaikipmaaZg
import Derived.Test.YtcebafeaikipmaaZh
import Derived.Test.YtcebafeaikipmaaZl
namespace Go.Proofs.Ytcebafeaikipmaa.S15
open Go.RowKit

set_option maxRecDepth 100000 in
set_option maxHeartbeats 1000000 in
theorem CloneL_any (s : Value) (l : List Int) (w : World) (hs : RInts w (Lt w.heap.size) s l) (hl : l.length ≤ 1000000) :
    Calls Try.prog 65 #[s] w fun e w' => ∃ v, e = .returned v ∧ w'.ownsRow w.heap.size 94 1 v l.length (l.map (Value.int .i64)) ∧ Below w.heap.size w w' := by
  obtain ⟨A, c, rfl, hm, hat⟩ := hs.open_
  have q22 : ∀ (w : World) (a : Option Addr) (n c n' c' : Nat), (binOp .eql 89 (.slice a n c) (.slice none n' c')).run Try.prog w = .ok (.bool a.isNone) w := fun w a n c n' c' => Go.Lib.run_eql_slice_nil w _ _ a n c n' c' Try.underlying89
  cases A with
  | none =>
    have h0 : l = [] := by
      cases l with
      | nil => rfl
      | cons x r => obtain ⟨b, off, e, _⟩ := hat (by simp); cases e
    subst h0
    go_enter Try.func65, Try.ntmps65
    go_wp2
    go_ret
    exact ⟨_, rfl, by simpa using World.ownsRow_nil _ _ _ _, Below.refl _ _⟩
  | some A =>
    go_enter Try.func65, Try.ntmps65
    have Hc := Lib.hid (rat_cells (f := Value.int .i64) (fun _ _ _ _ h => h) hat)
    go_wp2_with (
      at_builtin
      go_must (refine wpList_appendL rfl _ _ _ rfl eLit (v := .slice (some ⟨w.heap.size, 0, none⟩) 0 0) rfl (World.ownsRow_lit (base := w.heap.size) (e := 94) (size := 1) w #[] 0 (Nat.le_refl _) (by unfold maxLen; omega) rfl) A l.length c (l.map (Value.int .i64)) rfl (by simp) (fun j u hu => ?hcell) ?hone (by omega) (by simp) ?_)
      rotate_left 2
      intro v1 w3 hown1 hg1 hat1)
    case hcell =>
      have := Hc.out j u hu
      have hb := World.block_lt_of_cell? w _ this
      rw [World.cell?_alloc_lt _ _ _ hb]
      exact this
    case hone =>
      intro u hu
      obtain ⟨x, _, rfl⟩ := List.mem_map.1 hu
      rfl
    go_ret
    exact ⟨v1, rfl, by simpa using hown1, (below_alloc _ _).grown hg1 (by simp) (fun k hk => by simp [Value.ownBlock] at hk; omega)⟩
/-- the numbers, the first k of them -/
def numK (l : List Nat) (k : Nat) : List Int := (l.take k).map numI ++ List.replicate (l.length - k) 0
theorem numK_set {l : List Nat} {k : Nat} (h : k < l.length) : (numK l k).set k (numI l[k]) = numK l (k + 1) := by
  unfold numK
  have ht : ((l.take k).map numI).length = k := by simp; omega
  rw [List.set_append_right _ _ (by omega), ht, Nat.sub_self, List.take_succ_eq_append_getElem h, List.map_append, List.append_assoc]
  obtain ⟨m, hm⟩ : ∃ m, l.length - k = m + 1 := ⟨l.length - k - 1, by omega⟩
  rw [hm, show l.length - (k + 1) = m by omega, List.replicate_succ, List.set_cons_zero]
  rfl
theorem numK_all (l : List Nat) : numK l l.length = l.map numI := by unfold numK; simp
theorem numK_length (l : List Nat) {k : Nat} (h : k ≤ l.length) : (numK l k).length = l.length := by unfold numK; simp; omega
set_option maxRecDepth 100000 in
set_option maxHeartbeats 8000000 in
theorem keep_any {w : World} {B S Q : Nat} {ad : List Nat} {vl : Rl → Value} {s : St} (h : SAt w B S ad vl s) (hp : Shp s) (hi : Ids s) {v : Value} {l : List Nat} (hown : OwnG w Q 94 v (iN l)) (hlo : ∀ g, v.ownBlock = some g → ¬ FP S ad vl g) (h1 : 1 ≤ l.length) (hl5 : l.length ≤ 5000)
    (ho : ∀ x ∈ l, okL s.vars x) (ht : s.trail.length ≤ 10000) (M : Nat) (hM : ∀ i, (s.watch.getD i []).length ≤ M) (hMl : M ≤ 1000000000) (hpr : s.proof.length ≤ 1000000000) (hln : s.learned.length ≤ 1000000000) :
    Calls Try.prog 54 #[.pointer (some ⟨S, 0, none⟩), v] w fun e w' => e = .returned (.tuple #[]) ∧ ∃ ad' vl', SAt w' B S ad' vl' (keepS s l) ∧ Stp w B S ad vl w' ad' vl' := by
  obtain ⟨gv, cv, hv, hgv1, hgv2, hgv3, -⟩ := hown.form (by simp; omega)
  have hnf : ¬ FP S ad vl gv := hlo gv (by rw [hv]; rfl)
  simp only [List.length_map] at hv hgv3
  have hsm := hp.sm
  obtain ⟨n, hn⟩ : ∃ n, n = l.length := ⟨_, rfl⟩
  have Hown := Lib.hid hown
  have H := Lib.hid h
  have Hp := Lib.hid hp
  have Hi := Lib.hid hi
  have Ho := Lib.hid ho
  have HM := Lib.hid hM
  obtain ⟨R, hR⟩ : ∃ R, R = keepS s l := ⟨_, rfl⟩
  rw [← hR]
  have HR := Lib.hid hR
  have Hn := Lib.hid hn
  rw [← hn] at hv h1 hl5 hgv3
  have Hv := Lib.hid hv
  have hmk := run_makeN (P := Try.prog) (t := 37) (e := 3) (bytes := 8) (z := .int .i64 0) Try.underlying37 (by kernel_rfl) (by omega) rfl n (by omega)
  obtain ⟨g, hg⟩ : ∃ g, g = w.heap.size := ⟨_, rfl⟩
  have Hg := Lib.hid hg
  have HO := Lib.hid (show OwnG (w.alloc (.cells (madeCells #[.int .i64 0] n) 3)) g 3 (.slice (some ⟨g, 0, none⟩) n n) ((numK l 0).map (.int .i64)) by
    have := OwnG.of_own (own_made w 3 (.int .i64 0) n (by omega))
    rw [← hg] at this
    have e : (numK l 0).map (Value.int .i64) = List.replicate n (Value.int .i64 0) := by unfold numK; rw [hn]; simp
    rw [e]; exact this)
  have HB := Lib.hid (show Below g w (w.alloc (.cells (madeCells #[.int .i64 0] n) 3)) by rw [hg]; exact below_alloc _ _)
  have hgvg : gv < g := by omega
  rw [hv]
  clear h hp hi ho hM hlo hR hn hown hv
  go_enter Try.func54, Try.ntmps54
  go_wp2_with fail
  clear hmk
  rw [← hg]
  obtain ⟨w1, hw1⟩ : ∃ w1, w1 = w.alloc (.cells (madeCells #[.int .i64 0] n) 3) := ⟨_, rfl⟩
  rw [← hw1] at HO HB ⊢
  clear hw1 hg
  go_loopw [13] (fun kv wr => ∃ k : Nat, k ≤ n ∧ kv = .int .i64 k ∧ Hid (OwnG wr g 3 (.slice (some ⟨g, 0, none⟩) n n) ((numK l k).map (.int .i64))) ∧ Hid (Below g w wr)) (fun kv _ => n - (intOf kv).toNat)
  case atStart => exact ⟨0, Nat.zero_le _, rfl, HO, HB⟩
  case round =>
    obtain ⟨k, hkle, rfl, HO2, HB2⟩ := hrel
    have hOv : OwnG wr Q 94 (.slice (some ⟨gv, 0, none⟩) n cv) (iN l) := by
      rw [← Hv.out]
      exact Hown.out.kp fun b hb o hob => by
        have e := (HB2.out.block b (by rw [Hv.out] at hb; cases hb; exact hgvg)).trans hob
        exact e
    have HOv := Lib.hid hOv
    rcases Nat.lt_or_ge k n with hk | hk
    · obtain ⟨x, hx⟩ : ∃ x, l[k]? = some x := ⟨_, List.getElem?_eq_getElem (by rw [← Hn.out]; exact hk)⟩
      have hxo := Ho.out x (List.mem_of_getElem? hx)
      have hxe : l[k]'(by rw [← Hn.out]; exact hk) = x := (List.getElem?_eq_some_iff.1 hx).2
      have hx0 := hxo.2
      have dk : wr.cell? ⟨gv, k, none⟩ = some (.int .i64 (x : Int)) := hOv.cell (by rw [List.getElem?_map, hx]; rfl)
      have dg : wr.cell? ⟨g, k, none⟩ = some (.int .i64 ((numK l k).getD k 0)) := HO2.out.cell (by
        rw [List.getElem?_map, List.getElem?_eq_getElem (by rw [numK_length l (by rw [← Hn.out]; exact hkle), ← Hn.out]; exact hk), List.getD_eq_getElem?_getD, List.getElem?_eq_getElem (by rw [numK_length l (by rw [← Hn.out]; exact hkle), ← Hn.out]; exact hk)]; rfl)
      have fg := HO2.out.frozen k
      have HNu := Lib.hid (fun w => number_any x w (by omega))
      have hset := HO2.out.set k (.int .i64 (numI x))
      rw [← List.map_set, ← hxe, numK_set (by rw [← Hn.out]; exact hk), hxe] at hset
      have Hset := Lib.hid hset
      have hgle : g ≤ wr.heap.size := by rw [Hg.out]; exact HB2.out.size
      have HB3 := Lib.hid ((HB2.out.setCell (p := ⟨g, k, none⟩) (Nat.le_refl _) (.int .i64 (numI x))))
      clear hOv hx hxo hxe hset
      go_wp2_with (go_at_call 64; with_reducible refine (HNu.out _).mono ?_; rintro e wr ⟨rfl, rfl⟩)
      go_roundw
      case rel => exact ⟨k + 1, by omega, by go_num, Hset, HB3⟩
      case measure => simp [intOf]; omega
    · obtain rfl : k = n := by omega
      rw [Hn.out, numK_all, ← Hn.out] at HO2
      have hloG : LoQ S ad vl w.heap.size := H.out.loQ
      have h2 := H.out.keepLo hloG (Hg.out ▸ HB2.out)
      have p2 := H.out.stpNew (Hg.out ▸ HB2.out)
      have H2 := Lib.hid h2
      have P2 := Lib.hid p2
      have HloG := Lib.hid hloG
      have HOv := Lib.hid HOv.out
      obtain ⟨Ap, cp, hpv⟩ := (h2.rows .pr).shape
      have hpl : (cont s ad vl .pr).length = s.proof.length := by simp [cont]
      rw [hpl] at hpv
      have c13 := h2.cellS (k := 13) (v := vl .pr) rfl
      rw [hpv] at c13
      have f13 := h2.frozenS 13
      have ep := h2.rows .pr
      rw [hpv] at ep
      have HOp := Lib.hid (show OwnG wr B 37 (.slice Ap s.proof.length cp) (cont s ad vl .pr) from ep)
      have Hpv := Lib.hid hpv
      have Hpl := Lib.hid hpl
      have hszw : B ≤ wr.heap.size := h2.size
      have hSw : S < wr.heap.size := h2.lt
      have hNv := own_lo HO2.out (show B ≤ g by rw [Hg.out]; exact H.out.size)
      have HNv := Lib.hid hNv
      clear h2 p2 hloG hpv hpl ep hNv
      go_upto_region 7 with (at_builtin; refine wpList_pushG rfl _ _ _ rfl eRows (v := .slice Ap s.proof.length cp) rfl (HOp.out.kp fun _ _ => kp_new (below_alloc _ _) _) wr.heap.size (.slice (some ⟨g, 0, none⟩) k k) rfl (one_new wr _ _) rfl (by rw [Hpl.out]; omega) (by simp; omega) ?_; intro v' w5 hown hgr hn; rw [← Hpv.out] at hgr hn; obtain ⟨A', c', hv'⟩ := hown.shape; rw [List.length_append, Hpl.out, List.length_singleton] at hv'; subst hv'; obtain ⟨q1, q2, q3⟩ := H2.out.addP P2.out HNv.out HloG.out (fun b hb => (by cases hb; rw [← Hg.out]; exact Nat.le_refl _)) (below_alloc _ _) hown hgr hn; (have j13 : w5.cell? ⟨S, 13, none⟩ = some (vl .pr) := cell_of_row w5 S 13 _ _ (0, 0) q3; have jf := frozen_of_row w5 S 13 _ _ q3; have H7 := Lib.hid q1; have P7 := Lib.hid q2; clear q1 q2 q3 hown hgr hn))
      obtain ⟨vl6, hvl6⟩ : ∃ vl6, vl6 = updV (updV vl (.pw s.proof.length) (.slice (some ⟨g, 0, none⟩) k k)) .pr (.slice A' (s.proof.length + 1) c') := ⟨_, rfl⟩
      obtain ⟨w6, hw6⟩ : ∃ w6, w6 = w5.setCell ⟨S, 13, none⟩ (.slice A' (s.proof.length + 1) c') := ⟨_, rfl⟩
      rw [← hvl6, ← hw6] at H7 P7
      rw [← hw6]
      clear hvl6 hw6 c13 f13 j13 jf
      have hOv6 : OwnG w6 Q 94 (.slice (some ⟨gv, 0, none⟩) k cv) (iN l) := by
        rw [← Hv.out]
        exact Hown.out.kp fun b hb => P7.out.kp (by rw [Hv.out] at hb; cases hb; exact hnf)
      obtain ⟨x, hx⟩ : ∃ x, l[0]? = some x := ⟨_, List.getElem?_eq_getElem (by rw [← Hn.out]; omega)⟩
      have hx0 : l.getD 0 0 = x := by rw [List.getD_eq_getElem?_getD, hx]; rfl
      have hxo := Ho.out x (List.mem_of_getElem? hx)
      have d0 : w6.cell? ⟨gv, 0, none⟩ = some (.int .i64 (x : Int)) := hOv6.cell (by rw [List.getElem?_map, hx]; rfl)
      have hx1 : x < s.value.length := by rw [Hp.out.va]; exact hxo.2
      have hx2 : nt x < s.value.length := by rw [Hp.out.va]; exact (okL_nt hxo).2
      have hx3 : x / 2 < s.level.length := by rw [Hp.out.le]; have := hxo.2; omega
      have hx4 : x / 2 < s.reason.length := by rw [Hp.out.re]; have := hxo.2; omega
      have hx5 : s.value.length ≤ 100000 := by rw [Hp.out.va]; omega
      have HOv6 := Lib.hid hOv6
      have Hx0 := Lib.hid hx0
      have hkn : l.length = k := Hn.out.symm
      have Hxm := Lib.hid (List.mem_of_getElem? hx)
      clear hOv6 hx hx0 hxo
      by_cases hone : k = 1
      · have z1 : (((k : Nat) : Int) == 1) = true := by rw [hone]; rfl
        have HRr := Lib.hid (show R = setS (addPr s (l.map numI)) x none by rw [HR.out, keepS_one (by omega), Hx0.out]; rfl)
        have HS := Lib.hid (set_any H7.out x none hx1 hx2 hx3 hx4 hx5 (by show s.trail.length ≤ _; omega))
        have hno : oC ad none = .pointer none := rfl
        rw [hno] at HS
        clear hno hone hkn
        go_wp2_with (go_at_call 48; with_reducible refine HS.out.mono ?_; rintro e w9 ⟨rfl, v9, h9, p9⟩; (have H9 := Lib.hid h9; have P9 := Lib.hid (P7.out.trans p9); clear h9 p9))
        refine bodyPost_ret (results_none rfl _ _ _) rfl ?_
        rw [HRr.out]
        exact ⟨rfl, ad, _, H9.out, P9.out⟩
      · have z1 : (((k : Nat) : Int) == 1) = false := beq_eq_false_iff_ne.2 (by omega)
        have HRr := Lib.hid (show R = setS (attS (addPr s (l.map numI)) l 0 s.clauses (s.learned ++ [s.cls.length])) x (some s.cls.length) by rw [HR.out, keepS_more (by omega), Hx0.out]; rfl)
        have HC := Lib.hid (CloneL_any (.slice (some ⟨gv, 0, none⟩) k cv) (zN l) w6 (ints_of_g HOv6.out fun b hb => (HOv6.out.lt b hb).2) (by simp; omega))
        have Hzn := Lib.hid (show (zN l).map (Value.int .i64) = iN l by simp)
        have Hil := Lib.hid (show (iN l).length = k by rw [List.length_map]; exact hkn)
        have hk2 : 2 ≤ k := by omega
        clear hone hkn
        go_upto_region 10 with (go_at_call 65; with_reducible refine HC.out.mono ?_; rintro e w7 ⟨v7, rfl, o7, b7⟩; (have o8 := OwnG.of_own o7; rw [Hzn.out] at o8; obtain ⟨A7, c7, e7⟩ := o8.shape; rw [Hil.out] at e7; subst e7; have O7 := Lib.hid o8; have B7 := Lib.hid b7; clear o7 b7 o8))
        obtain ⟨sp, hsp⟩ : ∃ sp, sp = addPr s (l.map numI) := ⟨_, rfl⟩
        have hspc : sp.cls.length = s.cls.length := by rw [hsp]; rfl
        have hspl : sp.learned = s.learned := by rw [hsp]; rfl
        rw [← hsp] at H7 HRr
        have Hip : Ids sp := by rw [hsp]; exact ⟨Hi.out.cs, Hi.out.ln, Hi.out.wr, Hi.out.re⟩
        obtain ⟨w8, hw8⟩ : ∃ w8, w8 = w7.alloc (.cells #[.slice A7 k c7, .int .i64 0, .bool false] 98) := ⟨_, rfl⟩
        have h7' := H7.out.new B7.out
        have h8 : SAt w8 B S (ad ++ [w7.heap.size]) (updV vl6 (.li sp.cls.length) (.slice A7 k c7)) (newC sp l 0) := by
          rw [hw8]
          exact h7'.addC Hip l 0 (own_lo O7.out H7.out.size) fun b hb e => by have := (O7.out.lt b hb).1; have := (H7.out.fpLo e).2; omega
        have p8 : Stp w B S ad vl w8 (ad ++ [w7.heap.size]) (updV vl6 (.li sp.cls.length) (.slice A7 k c7)) := by
          rw [hw8]
          exact h7'.stpC (P7.out.trans (H7.out.stpNew B7.out)) _ _ fun b hb => Nat.le_trans P7.out.below.size (O7.out.lt b hb).1
        have H8 := Lib.hid h8
        have P8 := Lib.hid p8
        rw [← hw8]
        obtain ⟨q, hq⟩ : ∃ q, q = w7.heap.size := ⟨_, rfl⟩
        rw [← hq] at H8 P8 ⊢
        have hga : pC (ad ++ [q]) sp.cls.length = .pointer (some ⟨q, 0, none⟩) := by
          unfold pC
          rw [List.getD_eq_getElem?_getD, List.getElem?_append_right (by rw [H7.out.adl]; omega), H7.out.adl]; simp
        have hgo : oC (ad ++ [q]) (some sp.cls.length) = .pointer (some ⟨q, 0, none⟩) := hga
        have Hga := Lib.hid hga
        have Hgo := Lib.hid hgo
        clear h8 p8 hw8 hq hga hgo h7' d0
        obtain ⟨vl8, hvl8⟩ : ∃ vl8, vl8 = updV vl6 (.li sp.cls.length) (.slice A7 k c7) := ⟨_, rfl⟩
        rw [← hvl8] at H8 P8
        clear hvl8
        obtain ⟨Ac, cc, hcs⟩ := (H8.out.rows .ln).shape
        have hcl : (cont (newC sp l 0) (ad ++ [q]) vl8 .ln).length = s.learned.length := by simp [cont, newC, hspl]
        rw [hcl] at hcs
        have c1 := H8.out.cellS (k := 2) (v := vl8 .ln) rfl
        rw [hcs] at c1
        have e1 := H8.out.rows .ln
        rw [hcs] at e1
        have HOc := Lib.hid (show OwnG w8 B 96 (.slice Ac s.learned.length cc) (cont (newC sp l 0) (ad ++ [q]) vl8 .ln) from e1)
        have Hcs := Lib.hid hcs
        have Hcl := Lib.hid hcl
        have Hsp := Lib.hid hsp
        have Hspc := Lib.hid hspc
        clear hcs e1 hcl hsp
        have hsz8 : B ≤ w8.heap.size := H8.out.size
        go_upto_region 11 with (at_builtin; refine wpList_pushG rfl _ _ _ rfl eCls (v := .slice Ac s.learned.length cc) rfl (HOc.out.kp fun _ _ => kp_new (below_alloc _ _) _) w8.heap.size (.pointer (some ⟨q, 0, none⟩)) rfl (one_new w8 _ _) rfl (by rw [Hcl.out]; omega) (by simp; omega) ?_; intro v' w9 hown hgr hn; rw [← Hcs.out] at hgr hn; obtain ⟨A9, c9, hv9⟩ := hown.shape; rw [List.length_append, Hcl.out, List.length_singleton] at hv9; subst hv9; rw [← Hga.out] at hown; obtain ⟨q1, q2, q3⟩ := H8.out.pushSl .ln 2 (below_alloc _ _) { newC sp l 0 with learned := sp.learned ++ [sp.cls.length] } hown hgr hn (by simp [cont, newC]) (fun r hr => by cases r <;> first | rfl | exact absurd rfl hr | (simp [cont, newC, updV]; done)) rfl rfl (fun _ _ => rfl); (have j2 : w9.cell? ⟨S, 2, none⟩ = some (vl8 .ln) := cell_of_row w9 S 2 _ _ (0, 0) q3; have jf := frozen_of_row w9 S 2 _ _ q3; have H10 := Lib.hid q1; have P10 := Lib.hid (P8.out.trans q2); clear q1 q2 q3 hown hgr hn))
        obtain ⟨w10, hw10⟩ : ∃ w10, w10 = w9.setCell ⟨S, 2, none⟩ (.slice A9 (s.learned.length + 1) c9) := ⟨_, rfl⟩
        obtain ⟨vl10, hvl10⟩ : ∃ vl10, vl10 = updV vl8 .ln (.slice A9 (s.learned.length + 1) c9) := ⟨_, rfl⟩
        rw [← hw10, ← hvl10] at H10 P10
        rw [← hw10]
        clear hw10 hvl10 j2 jf c1
        have hcx : (St.cl { newC sp l 0 with learned := sp.learned ++ [sp.cls.length] } sp.cls.length).lits = l := congrArg Cl.lits (cl_newC l 0)
        have HA := attach_any H10.out sp.cls.length (by simp [newC]) (by rw [hcx, ← Hn.out]; exact hk2) (by rw [hcx]; intro y hy; have := (Ho.out y hy).2; have := Hp.out.wt; show y < sp.watch.length; rw [Hsp.out]; show y < s.watch.length; omega) M (by show ∀ i, (sp.watch.getD i []).length ≤ M; rw [Hsp.out]; exact HM.out) (by omega)
        have hat : attachS { newC sp l 0 with learned := sp.learned ++ [sp.cls.length] } sp.cls.length = attS sp l 0 s.clauses (s.learned ++ [s.cls.length]) := by rw [Hsp.out]; rfl
        rw [hat, Hga.out] at HA
        have HA2 := Lib.hid HA
        have hatt := att_att sp l 0 s.clauses (s.learned ++ [s.cls.length])
        obtain ⟨T, hT⟩ : ∃ T, T = attS sp l 0 s.clauses (s.learned ++ [s.cls.length]) := ⟨_, rfl⟩
        rw [← hT] at HA2 hatt HRr
        have t1 : T.value.length = s.value.length := by rw [hatt.value, Hsp.out]; rfl
        have t2 : T.level.length = s.level.length := by rw [hatt.level, Hsp.out]; rfl
        have t3 : T.reason.length = s.reason.length := by rw [hatt.reason, Hsp.out]; rfl
        have t4 : T.trail.length = s.trail.length := by rw [hatt.trail, Hsp.out]; rfl
        clear hcx HA hat hatt hT
        go_upto_region 12 with (go_at_call 49; with_reducible refine HA2.out.mono ?_; rintro e w11 ⟨rfl, vl11, h11, p11⟩; (have H11 := Lib.hid h11; have P11 := Lib.hid (P10.out.trans p11); clear h11 p11))
        have hO11 : OwnG w11 Q 94 (.slice (some ⟨gv, 0, none⟩) k cv) (iN l) := by
          rw [← Hv.out]
          exact Hown.out.kp fun b hb => P11.out.kp (by rw [Hv.out] at hb; cases hb; exact hnf)
        have d0 : w11.cell? ⟨gv, 0, none⟩ = some (.int .i64 (x : Int)) := hO11.cell (by
          have hx0 := Hx0.out
          rw [List.getElem?_map, List.getElem?_eq_getElem (by rw [← Hn.out]; omega)]
          rw [List.getD_eq_getElem?_getD, List.getElem?_eq_getElem (by rw [← Hn.out]; omega)] at hx0
          rw [← hx0]; rfl)
        have HS := Lib.hid (set_any H11.out x (some sp.cls.length) (by rw [t1]; exact hx1) (by rw [t1]; exact hx2) (by rw [t2]; exact hx3) (by rw [t3]; exact hx4) (by rw [t1]; exact hx5) (by rw [t4]; omega))
        rw [Hgo.out] at HS
        clear hO11
        go_wp2_with (go_at_call 48; with_reducible refine HS.out.mono ?_; rintro e w12 ⟨rfl, v12, h12, p12⟩; (have H12 := Lib.hid h12; have P12 := Lib.hid (P11.out.trans p12); clear h12 p12))
        go_end0
        rw [HRr.out, ← Hspc.out]
        exact ⟨rfl, _, _, H12.out, P12.out⟩
end Go.Proofs.Ytcebafeaikipmaa.S15

namespace Go.Proofs.Ytcebafeaikipmaa.S15
open Go.RowKit

/-- an answer in memory -/
def AnsV (w' : World) (S : Nat → Prop) (v : Value) : SAns → Prop
  | .opn k => v = .agg #[.int .i64 3, .slice none 0 0, .slice none 0 0, .int .i64 (k : Int)]
  | .unsat p k => ∃ pv, v = .agg #[.int .i64 2, .slice none 0 0, pv, .int .i64 (k : Int)] ∧ RIntss w' S pv p
  | .sat t k => ∃ tv, v = .agg #[.int .i64 1, tv, .slice none 0 0, .int .i64 (k : Int)] ∧ RBools w' S tv t
/-- what forget is to do -/
def ForgetOk (B S : Nat) : Prop := ∀ (w : World) (ad : List Nat) (vl : Rl → Value) (s : St), SAt w B S ad vl s → Shp s → Rb s → (∀ c ∈ s.learned, c < s.cls.length ∧ 0 ≤ (s.cl c).used ∧ (s.cl c).used ≤ 4000000000000000000 ∧ 2 ≤ (s.cl c).lits.length ∧ ∀ x ∈ (s.cl c).lits, okL s.vars x) → 200 < s.learned.length → s.learned.length ≤ 1000000000 →
  Calls Try.prog 55 #[.pointer (some ⟨S, 0, none⟩)] w fun e w' => e = .returned (.tuple #[]) ∧ ∃ l vl', l.Perm s.learned ∧ SAt w' B S ad vl' (forgetS s l) ∧ Stp w B S ad vl w' ad vl'
theorem res_at {w : World} {rb : Nat} (h : w.heap[rb]? = some (.cells #[.int .i64 0, .slice none 0 0, .slice none 0 0, .int .i64 0] 69 (0, 0))) :
    w.cell? ⟨rb, 0, none⟩ = some (.int .i64 0) ∧ w.cell? ⟨rb, 1, none⟩ = some (.slice none 0 0) ∧ w.cell? ⟨rb, 2, none⟩ = some (.slice none 0 0) ∧ w.cell? ⟨rb, 3, none⟩ = some (.int .i64 0) ∧ ∀ j, w.frozen? ⟨rb, j, none⟩ = false :=
  ⟨cell_of_row _ _ 0 _ _ (0, 0) h, cell_of_row _ _ 1 _ _ (0, 0) h, cell_of_row _ _ 2 _ _ (0, 0) h, cell_of_row _ _ 3 _ _ (0, 0) h, fun j => frozen_of_row w rb j _ _ h⟩
theorem set4R {w : World} {rb : Nat} {t : TypeId} {a b c d : Value} (h : w.heap[rb]? = some (.cells #[a, b, c, d] t (0, 0))) (x y z u : Value) :
    ((((w.setCell ⟨rb, 0, none⟩ x).setCell ⟨rb, 1, none⟩ y).setCell ⟨rb, 2, none⟩ z).setCell ⟨rb, 3, none⟩ u).heap[rb]? = some (.cells #[x, y, z, u] t (0, 0)) := by
  have h1 := heap_setCell_same w rb 0 _ _ x h
  have h2 := heap_setCell_same _ rb 1 _ _ y h1
  have h3 := heap_setCell_same _ rb 2 _ _ z h2
  exact heap_setCell_same _ rb 3 _ _ u h3
theorem below4R {B rb : Nat} {w w1 : World} (h : Below B w w1) (hb : B ≤ rb) (x y z u : Value) :
    Below B w ((((w1.setCell ⟨rb, 0, none⟩ x).setCell ⟨rb, 1, none⟩ y).setCell ⟨rb, 2, none⟩ z).setCell ⟨rb, 3, none⟩ u) :=
  (((h.setCell (p := ⟨rb, 0, none⟩) hb x).setCell (p := ⟨rb, 1, none⟩) hb y).setCell (p := ⟨rb, 2, none⟩) hb z).setCell (p := ⟨rb, 3, none⟩) hb u
theorem reads_of_g {α : Type} {R : Rd α} {w : World} {T : Nat → Prop} {B : Nat} {t : TypeId} {v : Value} {xs : List Value} {l : List α} (h : OwnG w B t v xs) (hl : l.length = xs.length) (hT : ∀ g, v.ownBlock = some g → T g)
    (hR : ∀ k (h : k < l.length) u, xs[k]? = some u → R w T u l[k]) : RSl R w T v l := by
  rcases h with ⟨rfl, rfl⟩ | ⟨g, cap, cur, rfl, hb, hh, h1, h2, h3, h4⟩
  · have : l = [] := List.eq_nil_of_length_eq_zero (by simpa using hl)
    subst this
    exact RSl.nil_ _ _ _
  · refine ⟨some ⟨g, 0, none⟩, cap, by rw [hl], by omega, h3, fun hp => ⟨g, 0, rfl, hT g rfl, fun k hk => ?_⟩⟩
    obtain ⟨x, hx⟩ : ∃ x, xs[k]? = some x := ⟨_, List.getElem?_eq_getElem (by omega)⟩
    have hk2 : k < xs.length := by omega
    refine ⟨x, ?_, hR k hk _ hx⟩
    rw [Nat.zero_add, cell_of_row _ _ k _ _ _ hh]
    rw [← h4, List.getElem?_take, if_pos hk2] at hx
    simpa using hx
theorem proof_reads {w3 w5 : World} {B S rb : Nat} {ad : List Nat} {vl : Rl → Value} {q : St} {v' : Value} (h : SAt w3 B S ad vl q) (o : Obj) (h5 : OwnG w5 B 37 v' (cont q ad vl .pr ++ [.slice none 0 0]))
    (hg : (w3.alloc o).grownBy w5 (vl .pr).ownBlock) (hrb : ¬ FP S ad vl rb) (hrl : rb < w3.heap.size) (hn : NewOr (w3.alloc o) (vl .pr) v') : RIntss w5 (fun b => b ≠ rb ∧ B ≤ b ∧ b < w5.heap.size) v' (q.proof ++ [[]]) := by
  have hsz : w3.heap.size + 1 ≤ w5.heap.size := by have := hg.size; simpa using this
  refine reads_of_g h5 (by simp [cont]) (fun g hgo => ?_) fun k hk u hu => ?_
  · refine ⟨?_, h5.lt g hgo⟩
    rcases hn g hgo with k | k
    · rintro rfl; exact hrb (.inr (.inl ⟨.pr, k⟩))
    · have : w3.heap.size ≤ g := by simp at k; omega
      omega
  · by_cases e : k < q.proof.length
    · have hx : (cont q ad vl .pr ++ [Value.slice none 0 0])[k]? = some (vl (.pw k)) := by
        rw [List.getElem?_append_left (by simp [cont]; exact e)]
        simp [cont, e]
      rw [hx] at hu
      cases hu
      have hr := h.rows (.pw k)
      have hl : (q.proof ++ [[]])[k] = q.proof.getD k [] := by
        rw [List.getElem_append_left e, List.getD_eq_getElem?_getD, List.getElem?_eq_getElem e]; rfl
      rw [hl]
      have hr5 : OwnG w5 B (ty (.pw k)) (vl (.pw k)) (cont q ad vl (.pw k)) := hr.kp fun g hgo ob hob => by
        have h1 : (w3.alloc o).heap[g]? = some ob := heap_at_alloc hob
        have h2 := (ag_of_grown hg) g ⟨(Array.getElem?_eq_some_iff.1 h1).1, fun e2 => by have := h.apart _ _ _ hgo e2.symm; cases this⟩
        rw [h2]; exact h1
      refine reads_of_g hr5 (by simp [cont]) (fun g hgo => ⟨?_, hr5.lt g hgo⟩) fun j hj u hu => ?_
      · rintro rfl; exact hrb (.inr (.inl ⟨.pw k, hgo⟩))
      · simp only [cont, List.getElem?_map] at hu
        rw [List.getElem?_eq_getElem hj] at hu
        simp at hu
        exact hu.symm
    · have hk2 : k = q.proof.length := by simp at hk; omega
      subst hk2
      rw [List.getElem?_append_right (by simp [cont])] at hu
      simp [cont] at hu
      subst hu
      simp only [List.getElem_append_right (Nat.le_refl _), Nat.sub_self, List.getElem_singleton]
      exact RSl.nil_ _ _ _
theorem SAt.rdPr {w : World} {B S : Nat} {ad : List Nat} {vl : Rl → Value} {q : St} (h : SAt w B S ad vl q) : ∃ A c, vl .pr = .slice A q.proof.length c ∧ w.cell? ⟨S, 13, none⟩ = some (.slice A q.proof.length c) ∧ OwnG w B 37 (.slice A q.proof.length c) (cont q ad vl .pr) ∧ (cont q ad vl .pr).length = q.proof.length := by
  obtain ⟨A, c, hv⟩ := (h.rows .pr).shape
  have hl : (cont q ad vl .pr).length = q.proof.length := by simp [cont]
  rw [hl] at hv
  have h2 := h.rows .pr
  rw [hv] at h2
  have c13 := h.cellS (k := 13) (v := vl .pr) rfl
  rw [hv] at c13
  exact ⟨A, c, hv, c13, h2, hl⟩
theorem Stp.nfp {w w' : World} {B S : Nat} {ad ad' : List Nat} {vl vl' : Rl → Value} {X : Obj} (h : Stp w B S ad vl w' ad' vl') {k : Nat} (hk : ¬ FP S ad vl k) (hl : w.heap[k]? = some X) : ¬ FP S ad' vl' k := fun e =>
  (h.fp k e).elim hk fun e2 => by have := (Array.getElem?_eq_some_iff.1 hl).1; omega
theorem grown_at {w3 w5 : World} {S rb : Nat} {ad : List Nat} {vl : Rl → Value} {o X : Obj} (h : w3.heap[rb]? = some X) (hg : (w3.alloc o).grownBy w5 (vl .pr).ownBlock) (hrb : ¬ FP S ad vl rb) : w5.heap[rb]? = some X := by
  have h1 : (w3.alloc o).heap[rb]? = some X := heap_at_alloc h
  rw [(ag_of_grown hg) rb ⟨(Array.getElem?_eq_some_iff.1 h1).1, fun e => hrb (.inr (.inl ⟨.pr, e.symm⟩))⟩]
  exact h1
theorem reads4 {α : Type} {R : Rd α} (hs : Stable R) {w5 : World} {B rb : Nat} {v' : Value} {l : α} (h : R w5 (fun b => b ≠ rb ∧ B ≤ b ∧ b < w5.heap.size) v' l) (x y z u : Value) :
    R ((((w5.setCell ⟨rb, 0, none⟩ x).setCell ⟨rb, 1, none⟩ y).setCell ⟨rb, 2, none⟩ z).setCell ⟨rb, 3, none⟩ u) (fun b => B ≤ b ∧ b < ((((w5.setCell ⟨rb, 0, none⟩ x).setCell ⟨rb, 1, none⟩ y).setCell ⟨rb, 2, none⟩ z).setCell ⟨rb, 3, none⟩ u).heap.size) v' l := by
  have a1 : ∀ (w : World) (j : Nat) (q : Value), Ag (fun b => b ≠ rb) w (w.setCell ⟨rb, j, none⟩ q) := fun w j q => ag_setCell w ⟨rb, j, none⟩ q
  refine hs _ _ _ _ _ _ h ((((a1 _ _ _).trans (a1 _ _ _)).trans (a1 _ _ _)).trans (a1 _ _ _) |>.sub fun b hb => hb.1) fun b hb => ⟨hb.2.1, ?_⟩
  simpa using hb.2.2
theorem truths_reads {w6 w7 : World} {B rb : Nat} {v : Value} {l : List Bool} (h : OwnG w7 w6.heap.size 4 v (l.map .bool)) (hr : rb < w6.heap.size) (hB : B ≤ w6.heap.size) : RBools w7 (fun b => b ≠ rb ∧ B ≤ b ∧ b < w7.heap.size) v l :=
  reads_of_g h (by simp) (fun g hg => by have := h.lt g hg; exact ⟨by omega, by omega, this.2⟩) fun k hk u hu => by
    rw [List.getElem?_map, List.getElem?_eq_getElem hk] at hu
    simp at hu
    exact hu.symm
theorem below_grown {w w3 w5 : World} {B S : Nat} {ad : List Nat} {vl : Rl → Value} {q : St} {o : Obj} (h : SAt w3 B S ad vl q) (hb : Below B w w3) (hg : (w3.alloc o).grownBy w5 (vl .pr).ownBlock) : Below B w w5 :=
  (hb.trans ((Below.refl B w3).alloc h.size o)).grown hg (by have := h.size; simp; omega) fun k hk => (h.fpLo (.inr (.inl ⟨.pr, hk⟩))).1
theorem LoQ.out {w4 w5 : World} {B S Q : Nat} {ad ad' : List Nat} {vl vl' : Rl → Value} {t : TypeId} {v : Value} {xs : List Value} (hq : LoQ S ad vl Q) (ho : OwnG w4 Q t v xs) (p : Stp w4 B S ad vl w5 ad' vl') : OwnG w5 Q t v xs ∧ ∀ g, v.ownBlock = some g → ¬ FP S ad' vl' g := by
  have h : ∀ g, v.ownBlock = some g → ¬ FP S ad vl g := fun g hg e => Nat.lt_irrefl _ (Nat.lt_of_lt_of_le (hq g e) (ho.lt g hg).1)
  exact ⟨ho.kp fun g hg => p.kp (h g hg), fun g hg e => (p.fp g e).elim (h g hg) fun e => Nat.lt_irrefl _ (Nat.lt_of_lt_of_le (ho.lt g hg).2 e)⟩
theorem back0_any {w : World} {B S : Nat} {ad : List Nat} {vl : Rl → Value} {s : St} (h : SAt w B S ad vl s) (hp : Shp s) (hel : s.ends.length ≤ 100000) (htl : s.trail.length ≤ 100000) (hok : ∀ x ∈ s.trail, okL s.vars x) (hf : 0 < s.ends.length → s.ends.getD 0 0 < s.trail.length) :
    Calls Try.prog 53 #[.pointer (some ⟨S, 0, none⟩), .int .i64 0] w fun e w' => e = .returned (.tuple #[]) ∧ ∃ vl', SAt w' B S ad vl' (backS s 0) ∧ Stp w B S ad vl w' ad vl' := back_any h hp 0 (by omega) hel htl hok hf
set_option maxRecDepth 100000 in
set_option maxHeartbeats 8000000 in
theorem search_any {cs : List (List Int)} {n most : Nat} (hcs : ∀ C ∈ cs, ∀ m ∈ C, m ≠ 0 ∧ m.natAbs ≤ n) {w : World} {B S : Nat} {ad : List Nat} {vl : Rl → Value} {s : St} (h : SAt w B S ad vl s) (hv : Ctv cs n most (startS s)) (hrb : Rb s) (hm : most ≤ 2000000) (hF : 200 < most → ForgetOk B S) :
    Calls Try.prog 44 #[.pointer (some ⟨S, 0, none⟩), .int .i64 (most : Int)] w fun e w' => ∃ a v, Run most (startS s) a ∧ e = .returned v ∧ AnsV w' (fun b => B ≤ b ∧ b < w'.heap.size) v a ∧ Below B w w' := by
  have H := Lib.hid h
  have Hv := Lib.hid hv
  have Hcs := Lib.hid hcs
  have HRb := Lib.hid hrb
  clear hrb
  have HF := Lib.hid hF
  obtain ⟨rb, hrb⟩ : ∃ rb, rb = w.heap.size := ⟨_, rfl⟩
  have Hrb := Lib.hid hrb
  have hSl := h.lt
  rw [← hrb] at hSl
  obtain ⟨k0, hk0⟩ : ∃ k0, k0 = startS s := ⟨_, rfl⟩
  have Hk0 := Lib.hid hk0
  rw [← hk0] at Hv ⊢
  clear h hv hcs hF hk0
  go_enter Try.func44, Try.ntmps44
  go_wp2_with fail
  rw [← hrb]
  obtain ⟨w1, hw1⟩ : ∃ w1, w1 = w.alloc (.cells #[.int .i64 0, .slice none 0 0, .slice none 0 0, .int .i64 0] 69) := ⟨_, rfl⟩
  rw [← hw1]
  have H1 := Lib.hid (show SAt w1 B S ad vl s by rw [hw1]; exact H.out.new (below_alloc w _))
  have HB1 := Lib.hid (show Below B w w1 by rw [hw1]; exact (below_alloc w _).mono H.out.size)
  have HR1 := Lib.hid (show w1.heap[rb]? = some (.cells #[.int .i64 0, .slice none 0 0, .slice none 0 0, .int .i64 0] 69 (0, 0)) by rw [hw1, hrb]; exact heap_alloc_new w _)
  have hnf : ¬ FP S ad vl rb := fun e => by have := (H.out.fpLo e).2; omega
  clear hw1 hrb
  go_step3
  go_wp2_with fail
  go_step3
  go_wp2_with fail
  go_loopg [5, 6, 7, 8] (muS n most k0) (fun gk v5 v6 v7 v8 wr => ∃ (k : Ct) (ad' : List Nat) (vl' : Rl → Value), v5 = .int .i64 (k.conf : Nat) ∧ v6 = .int .i64 (k.rest : Nat) ∧ v7 = .int .i64 k.left ∧ v8 = .int .i64 (k.room : Nat) ∧ Hid (Ctv cs n most k ∧ (∀ a, Run most k a → Run most k0 a) ∧ gk = muS n most k ∧ Rb k.st) ∧ Hid (SAt wr B S ad' vl' k.st) ∧ Hid (Stp w1 B S ad vl wr ad' vl'))
  case atStart => exact ⟨k0, ad, vl, by rw [Hk0.out]; rfl, by rw [Hk0.out]; rfl, by rw [Hk0.out]; rfl, by rw [Hk0.out]; rfl, Lib.hid ⟨Hv.out, fun _ h => h, rfl, by rw [Hk0.out]; exact HRb.out⟩, Lib.hid (by rw [Hk0.out]; exact H1.out), Lib.hid (Stp.refl _ _ _ _ _)⟩
  case round =>
    obtain ⟨w2, hw2⟩ : ∃ w2 : World, w2 = wr := ⟨_, rfl⟩
    rw [← hw2] at hrel ⊢
    clear hw2
    obtain ⟨k, ad', vl', rfl, rfl, rfl, rfl, HK, HA, PA⟩ := hrel
    have hk := HK.out.1
    have hcl9 : k.st.cls.length ≤ 1000000000 := by have := hk.sv.sw.b3; have := hk.le; omega
    have hU := units_any (dcl_Dd _) HA.out hk.sv.ui hcl9
    obtain ⟨u1, u2, u3⟩ := hk.sv.units
    obtain ⟨q, hq⟩ : ∃ q, q = unitsS (k.st.vars + 1) k.st := ⟨_, rfl⟩
    rw [← hq] at hU u1 u2 u3
    have HU := Lib.hid hU
    have Hu1 := Lib.hid u1
    have Hu2 := Lib.hid u2
    have Hu3 := Lib.hid u3
    have Hq := Lib.hid hq
    have Hk := Lib.hid hk
    have hle := hk.le
    have hrest := hk.rest
    have hll := hk.ll
    have hrl := hk.rl
    have hrm := hk.rm
    have hroom := hk.room
    have hnv := hk.vars
    have hsm := hk.sv.ui.shp.sm
    clear hU u1 u2 u3 hq hk
    obtain ⟨cf, hcf⟩ : ∃ cf, cf = k.conf := ⟨_, rfl⟩
    obtain ⟨rs, hrs⟩ : ∃ rs, rs = k.rest := ⟨_, rfl⟩
    obtain ⟨lf, hlf⟩ : ∃ lf, lf = k.left := ⟨_, rfl⟩
    obtain ⟨rm, hrm2⟩ : ∃ rm, rm = k.room := ⟨_, rfl⟩
    rw [← hcf, ← hrs, ← hlf, ← hrm2]
    rw [← hcf] at hle hrl hrm
    rw [← hrs] at hrest hll hrl
    rw [← hlf] at hll hrl
    rw [← hrm2] at hrm hroom
    have Hcf := Lib.hid hcf
    have Hrs := Lib.hid hrs
    have Hlf := Lib.hid hlf
    have Hrm := Lib.hid hrm2
    clear hcf hrs hlf hrm2
    obtain ⟨q1, q2⟩ := q
    simp only at HU Hu1 Hu2 Hu3
    cases q2 with
    | some c =>
      obtain ⟨pc, hpc⟩ : ∃ pc, pc = ad'.getD c 0 := ⟨_, rfl⟩
      have Hpc := Lib.hid (show oC ad' (some c) = .pointer (some ⟨pc, 0, none⟩) by rw [hpc]; rfl)
      rw [Hpc.out] at HU
      have Hpc2 := Lib.hid (show pC ad' c = .pointer (some ⟨pc, 0, none⟩) from Hpc.out)
      clear hpc
      by_cases hmo : most < cf + 1
      · have z1 : decide ((most : Int) < (cf : Int) + 1) = true := decide_eq_true (by omega)
        go_wp2_with (go_at_call 50; with_reducible refine HU.out.mono ?_; rintro e w3 ⟨rfl, vl3, h3, p3⟩; go_loud (have H3 := Lib.hid h3; have P3 := Lib.hid (PA.out.trans p3); have r3 := ((PA.out.trans p3).kp hnf).at_ HR1.out; obtain ⟨s0, s1, s2, s3, sf⟩ := res_at r3; have R3 := Lib.hid r3; clear h3 p3 r3))
        rw [Exit.noGoto_ret]
        refine bodyPost_ret (results_cell_row rfl _ _ rb _ _ (0, 0) _ rfl (set4R R3.out _ _ _ _) Try.underlying69 rfl (by kernel_rfl)) rfl ?_
        refine ⟨.opn (cf + 1), _, Run.to_stop HK.out.2.1 (List.Perm.refl _) ?_, rfl, rfl, below4R (HB1.out.trans P3.out.below) (by rw [Hrb.out]; exact H.out.size) _ _ _ _⟩
        rw [Hcf.out]
        exact round_opn Hq.out (by rw [← Hcf.out]; exact hmo)
      · have z1 : decide ((most : Int) < (cf : Int) + 1) = false := decide_eq_false (by omega)
        by_cases hen : q1.ends.length = 0
        · have z2 : (((q1.ends.length : Nat) : Int) == 0) = true := by rw [hen]; rfl
          have Hen := Lib.hid hen
          have Hpl : Hid (q1.proof.length ≤ 2000000) := Lib.hid (by have := Hu3.out.b2; have := Hcf.out; omega)
          clear hen
          go_wp2_with (first
            | (go_at_call 50; with_reducible refine HU.out.mono ?_; rintro e w3 ⟨rfl, vl3, h3, p3⟩; go_loud (have H3 := Lib.hid h3; have P3 := Lib.hid (PA.out.trans p3); have R3 := Lib.hid (((PA.out.trans p3).kp hnf).at_ HR1.out); have HN3 := Lib.hid (now_any h3); obtain ⟨Ap, cp, hpv, c13, hop, hpl⟩ := h3.rdPr; have Hpv := Lib.hid hpv; have HOp := Lib.hid hop; have Hplen := Lib.hid hpl; clear h3 p3 hpv hop hpl))
            | (go_at_call 51; with_reducible refine HN3.out.mono ?_; rintro e w3 ⟨rfl, rfl⟩)
            | (at_builtin; refine wpList_pushG rfl _ _ _ rfl eRows (v := .slice Ap q1.proof.length cp) rfl (HOp.out.kp fun _ _ => kp_new (below_alloc _ _) _) w3.heap.size (.slice none 0 0) rfl (one_new w3 _ _) rfl (by rw [Hplen.out]; have := Hpl.out; omega) (by have := H3.out.size; simp; omega) ?_; intro v' w5 hown hgr hn; go_loud (rw [← Hpv.out] at hgr hn; obtain ⟨A5, c5, hv5⟩ := hown.shape; rw [List.length_append, Hplen.out, List.length_singleton] at hv5; subst hv5; have HN5 := Lib.hid (P3.out.nfp hnf HR1.out); have HO5 := Lib.hid (proof_reads H3.out _ hown hgr HN5.out (Array.getElem?_eq_some_iff.1 R3.out).1 hn); have HB5 := Lib.hid (below_grown H3.out (HB1.out.trans P3.out.below) hgr); have r5 := grown_at R3.out hgr HN5.out; obtain ⟨s0, s1, s2, s3, sf⟩ := res_at r5; have R5 := Lib.hid r5; clear hown hgr hn r5)))
          try rw [Exit.noGoto_ret]
          refine bodyPost_ret (results_cell_row rfl _ _ rb _ _ (0, 0) _ rfl (set4R R5.out _ _ _ _) Try.underlying69 rfl (by kernel_rfl)) rfl ?_
          refine ⟨.unsat (q1.proof ++ [[]]) (cf + 1), _, Run.to_stop HK.out.2.1 (List.Perm.refl _) ?_, rfl, ⟨_, rfl, reads4 RIntss.stable HO5.out _ _ _ _⟩, below4R HB5.out (by rw [Hrb.out]; exact H.out.size) _ _ _ _⟩
          rw [Hcf.out]
          exact round_uns Hq.out (by rw [← Hcf.out]; exact hmo) Hen.out
        · have z2 : (((q1.ends.length : Nat) : Int) == 0) = false := beq_eq_false_iff_ne.2 (by omega)
          have hcf1 : Conf (Uc cs q1) (Dc_ cs q1) q1 c := by
            show Conf (Ud (cs ++ q1.proof)) (Dd (cs ++ q1.proof)) q1 c
            rw [Hu2.out.proof]; exact Hu1.out
          have husd : ∀ d, (q1.cl d).used ≤ 4000000000000000000 := fun d => by have := Hu3.out.us d; have := Hcf.out; omega
          obtain ⟨K, hK, hlrn, hU2, hS2, hSv⟩ := conflict hcf1 Hu3.out (by omega)
          have hrbq : Rb q1 := by have := Rb.units (dcl_Dd _) (k.st.vars + 1) k.st Hk.out.sv.ui HK.out.2.2.2; rw [← Hq.out] at this; exact this
          have hround := round_cf (l := k.st.learned) Hq.out (by rw [← Hcf.out]; exact hmo) hen
          obtain ⟨hnx1, hnx2⟩ := Hk.out.next Hcs.out (List.Perm.refl _) hround
          have hrun := Run.to_step HK.out.2.1 (List.Perm.refl _) hround
          have htl := hcf1.ui.tr.len
          have hok := hcf1.ui.tr.ok
          have hqv : q1.vars ≤ 2000 := hcf1.ui.shp.sm
          have hell := hcf1.ui.tr.elen
          have hel := hcf1.ui.tr.el
          have Hcf1 := Lib.hid hcf1
          have Husd := Lib.hid husd
          obtain ⟨t, ht⟩ : ∃ t, t = (learnS q1 c).1 := ⟨_, rfl⟩
          obtain ⟨out, hout⟩ : ∃ out, out = (learnS q1 c).2.1 := ⟨_, rfl⟩
          obtain ⟨lb, hlb⟩ : ∃ lb, lb = (learnS q1 c).2.2 := ⟨_, rfl⟩
          have hkept : keptS q1 c = keepS (backS t lb) out := by unfold keptS; rw [ht, hout, hlb]
          rw [← ht, ← hout, ← hlb] at hlrn
          rw [← ht, ← hlb] at hU2 hS2
          rw [hkept] at hround hnx1 hnx2 hrun
          have Ht := Lib.hid ht
          have Hout := Lib.hid hout
          have Hlb := Lib.hid hlb
          have hq1v : q1.vars = n := Hu2.out.vars.trans hnv
          have htr : t.trail = q1.trail := hlrn.fr.trail
          have hte : t.ends = q1.ends := hlrn.fr.ends
          have htv : t.vars = q1.vars := hlrn.fr.vars
          obtain ⟨x0, r0, ho1, ho2, ho3, ho4, ho5, ho6, -⟩ := hlrn.hd
          have hrlen : r0.length ≤ 2001 := by
            have := nodup_le' (n := 2001) ho4 fun v hv => by
              obtain ⟨y, hy, rfl⟩ := List.mem_map.1 hv
              have := (okL_nt (hok _ (ho5 y hy).1)).2
              rw [nt_nt] at this
              omega
            simpa using this
          have hout2 : ∀ y ∈ out, okL q1.vars y := fun y hy => by
            rw [ho1] at hy
            rcases List.mem_cons.1 hy with e | e
            · rw [e]; exact okL_nt (hok _ ho2)
            · have := okL_nt (hok _ (ho5 y e).1); rw [nt_nt] at this; exact this
          have holen : 1 ≤ out.length ∧ out.length ≤ 5000 := by rw [ho1]; simp; omega
          have hrbt : Rb (backS t lb) := (hrbq.learn hlrn).back lb
          have hids := ids_of hU2 hS2 hrbt
          have hwl := hU2.wlen
          have hbl := hS2.b3
          have hbp := hS2.b2
          have hbln := hS2.b1
          have hbv : (backS t lb).vars = q1.vars := (bk_back t lb).vars.trans htv
          have hbt := hU2.tr.len
          have hbst : (backS t lb).step = t.step := (bk_back t lb).step
          have hst := hlrn.st
          have Hl := Lib.hid hlrn
          have HU2 := Lib.hid hU2
          have Hids := Lib.hid hids
          have Hwl := Lib.hid hwl
          have Hout2 := Lib.hid hout2
          have Hnx1 := Lib.hid hnx1
          have Hnx2 := Lib.hid hnx2
          have Hrun := Lib.hid hrun
          have Hrbn : Hid (Rb (keepS (backS t lb) out)) := Lib.hid (hrbt.keep out)
          have Hok := Lib.hid hok
          have Hel := Lib.hid hel
          have hcfk := Hcf.out
          rw [← hcfk] at hbl hbp hbln
          have hkst := (keepS_vars (backS t lb) out).2
          rw [hbst] at hkst
          obtain ⟨stp, hstp⟩ : ∃ stp, stp = t.step := ⟨_, rfl⟩
          rw [← hstp] at hst hkst
          have Hkst := Lib.hid hkst
          have Htr := Lib.hid htr
          have Hte := Lib.hid hte
          have Htv := Lib.hid htv
          have Hbv := Lib.hid hbv
          have Hq1v := Lib.hid hq1v
          have hcut : ∀ lb2, lb2 < t.ends.length → t.ends.getD lb2 0 < t.trail.length := fun lb2 hl2 => by
            rw [hte] at hl2 ⊢
            rw [htr]
            have e : q1.ends.getD lb2 0 = q1.ends[lb2] := by rw [List.getD_eq_getElem?_getD, List.getElem?_eq_getElem hl2]; rfl
            rw [e]
            exact (hel _ (List.getElem_mem hl2)).1
          have Hcut := Lib.hid hcut
          clear hround hnx1 hnx2 hrun hcf1 husd hlrn hU2 hS2 hSv ht hout hlb hkept htr hte htv ho1 ho2 ho3 ho4 ho5 hout2 hrbt hrbq hids hwl hbv hbst hok hel hcfk hkst hstp hcut hq1v
          have hsq : Shp t := by
            have : SameL q1 t := ⟨Hl.out.fr.vars, by rw [Hl.out.fr.value], by rw [Hl.out.fr.watch], by rw [Hl.out.fr.level], by rw [Hl.out.fr.reason], by rw [Hl.out.fr.phase], Hl.out.fr.act, Hl.out.fr.seen⟩
            exact this.shp Hcf1.out.ui.shp
          have Hsq := Lib.hid hsq
          clear hsq
          go_upto_region 9 with (first
            | (go_at_call 50; with_reducible refine HU.out.mono ?_; rintro e w3 ⟨rfl, vl3, h3, p3⟩; go_loud (have H3 := Lib.hid h3; have P3 := Lib.hid (PA.out.trans p3); have HN3 := Lib.hid (now_any h3); have HL3 := Lib.hid (learn_any h3 Hcf1.out Hu3.out.sn Hu3.out.av (by omega) Husd.out); rw [← Ht.out, ← Hout.out, ← Hlb.out] at HL3; rw [Hpc2.out] at HL3; clear h3 p3))
            | (go_at_call 51; with_reducible refine HN3.out.mono ?_; rintro e w3 ⟨rfl, rfl⟩)
            | (go_at_call 52; with_reducible refine HL3.out.mono ?_; rintro e w4 ⟨lv, rfl, h4o, h4, p4⟩; go_loud (have HO4 := Lib.hid h4o; have H4 := Lib.hid h4; have P4 := Lib.hid p4; clear h4o h4 p4)))
          have hlb5 : lb ≤ 100000 := by omega
          have hQ3 := H3.out.loQ
          have HB4 := Lib.hid (back_any H4.out Hsq.out lb hlb5 (by rw [Hte.out]; omega) (by rw [Htr.out]; omega) (by rw [Htr.out, Htv.out]; exact Hok.out) (Hcut.out lb))
          have HQ3 := Lib.hid hQ3
          clear hQ3
          go_wp2_with (first
            | (go_at_call 53; with_reducible refine HB4.out.mono ?_; rintro e w5 ⟨rfl, vl5, h5, p5⟩; go_loud (have HK5 := Lib.hid (keep_any h5 HU2.out.shp Hids.out (HQ3.out.out HO4.out p5).1 (HQ3.out.out HO4.out p5).2 holen.1 holen.2 (by rw [Hbv.out]; exact Hout2.out) (by have := HU2.out.tr.len; rw [Hbv.out] at this; omega) _ Hwl.out (by omega) (by omega) (by omega)); have P5 := Lib.hid ((P3.out.trans P4.out).trans p5); clear h5 p5))
            | (go_at_call 54; with_reducible refine HK5.out.mono ?_; rintro e w6 ⟨rfl, ad6, vl6, h6, p6⟩; go_loud (have H6 := Lib.hid h6; have P6 := Lib.hid (P5.out.trans p6); have c9 := h6.cellS (k := 9) (v := .int .i64 (((keepS (backS t lb) out).step : Nat) : Int)) rfl; rw [Hkst.out] at c9; have f9 := h6.frozenS 9; clear h6 p6)))
          go_region
          rw [show (stp : Int) + (stp : Int) / 16 = ((stp + stp / 16 : Nat) : Int) by omega]
          have h7 := H6.out.setNum 9 (.int .i64 ((stp + stp / 16 : Nat) : Int)) { keepS (backS t lb) out with step := (keepS (backS t lb) out).step + (keepS (backS t lb) out).step / 16 } (fun r => by cases r <;> rfl) (by rw [Hkst.out]; rfl) rfl (fun _ _ => rfl)
          have p7 := P6.out.trans (H6.out.stpNum 9 (.int .i64 ((stp + stp / 16 : Nat) : Int)))
          obtain ⟨w7, hw7⟩ : ∃ w7, w7 = (w6.setCell ⟨S, 9, none⟩ (.int .i64 ((stp + stp / 16 : Nat) : Int))).drew := ⟨_, rfl⟩
          have H7 := Lib.hid (show SAt w7 B S ad6 vl6 _ by rw [hw7]; exact h7.new (Below.refl _ _).drew)
          have P7 := Lib.hid (show Stp w1 B S ad vl w7 ad6 vl6 by rw [hw7]; exact p7.trans (h7.stpNew (Below.refl _ _).drew))
          rw [← hw7]
          clear c9 f9 h7 p7 hw7
          go_wp2_with fail
          go_roundg (muS n most { k with st := { keepS (backS t lb) out with step := (keepS (backS t lb) out).step + (keepS (backS t lb) out).step / 16 }, conf := k.conf + 1, left := k.left - 1 })
          case rel => exact ⟨_, ad6, vl6, by rw [Hcf.out]; rfl, by rw [Hrs.out], by rw [Hlf.out], by rw [Hrm.out], Lib.hid ⟨Hnx1.out, Hrun.out, rfl, Hrbn.out⟩, H7, P7⟩
          case measure => rw [HK.out.2.2.1]; exact Hnx2.out
    | none =>
      rw [show oC ad' none = .pointer none from rfl] at HU
      have hres := Hk.out.rested Hq.out
      obtain ⟨k1, hk1⟩ : ∃ k1, k1 = restS k q1 := ⟨_, rfl⟩
      rw [← hk1] at hres
      have Hk1 := Lib.hid hk1
      have Hres := Lib.hid hres
      have hui : UI (Uc cs q1) (Dc_ cs q1) q1 (fun _ _ => False) := by
        show UI (Ud (cs ++ q1.proof)) (Dd (cs ++ q1.proof)) _ _
        rw [Hu2.out.proof]; exact Hu1.out.1
      have Hui := Lib.hid hui
      have hqv : q1.vars ≤ 2000 := hui.shp.sm
      have htl := hui.tr.len
      have hell := hui.tr.elen
      obtain ⟨r1, hr1⟩ : ∃ r1, r1 = k1.rest := ⟨_, rfl⟩
      obtain ⟨l1, hl1⟩ : ∃ l1, l1 = k1.left := ⟨_, rfl⟩
      have Hr1 := Lib.hid hr1
      have Hl1 := Lib.hid hl1
      clear hk1 hres hui hr1 hl1
      go_upto_if 55 with (go_at_call 50; with_reducible refine HU.out.mono ?_; rintro e w3 ⟨rfl, vl3, h3, p3⟩; go_loud (have H3 := Lib.hid h3; have P3 := Lib.hid (PA.out.trans p3); have HB3 := Lib.hid (back0_any h3 Hui.out.shp (by omega) (by omega) Hui.out.tr.ok Hui.out.tr.at0); clear h3 p3))
      go_cut [6, 7] (fun v6 v7 wx => ∃ vl4, v6 = .int .i64 (r1 : Int) ∧ v7 = .int .i64 l1 ∧ Hid (SAt wx B S ad' vl4 k1.st) ∧ Hid (Stp w1 B S ad vl wx ad' vl4))
      case first =>
        by_cases hlf0 : lf ≤ 0
        · have z3 : decide (lf ≤ 0) = true := decide_eq_true hlf0
          have hk1e := restS_yes (k := k) (s := q1) (by rw [← Hlf.out]; exact hlf0)
          rw [← Hk1.out] at hk1e
          have Hk1e := Lib.hid hk1e
          clear hk1e
          go_wp2_with (go_at_call 53; with_reducible refine HB3.out.mono ?_; rintro e w4 ⟨rfl, vl4, h4, p4⟩; go_loud (have H4 := Lib.hid h4; have P4 := Lib.hid (P3.out.trans p4); clear h4 p4))
          go_meet
          case rel =>
            exact ⟨vl4, by rw [Hr1.out, Hk1e.out, Hrs.out]; rfl, by rw [Hl1.out, Hk1e.out, Hrs.out]; rfl, by rw [Hk1e.out]; exact H4, P4⟩
        · have z3 : decide (lf ≤ 0) = false := decide_eq_false hlf0
          have hk1e := restS_no (k := k) (s := q1) (by rw [← Hlf.out]; exact hlf0)
          rw [← Hk1.out] at hk1e
          have Hk1e := Lib.hid hk1e
          clear hk1e
          go_wp2
          go_meet
          case rel =>
            exact ⟨vl3, by rw [Hr1.out, Hk1e.out, Hrs.out], by rw [Hl1.out, Hk1e.out, Hlf.out], by rw [Hk1e.out]; exact H3, P3⟩
      case rest =>
        obtain ⟨vl4, rfl, rfl, H4, P4⟩ := hcut
        have hrun1 : k1.room = rm ∧ k1.conf = cf := by rw [Hk1.out, Hrm.out, Hcf.out]; exact ⟨(restS_conf k q1).2, (restS_conf k q1).1⟩
        obtain ⟨A2, c2, hv2⟩ := (H4.out.rows .ln).shape
        have hl2 : (cont k1.st ad' vl4 .ln).length = k1.st.learned.length := by simp [cont]
        rw [hl2] at hv2
        have c2v := H4.out.cellS (k := 2) (v := vl4 .ln) rfl
        rw [hv2] at c2v
        obtain ⟨m, hm2⟩ : ∃ m, m = k1.st.learned.length := ⟨_, rfl⟩
        rw [← hm2] at c2v
        have hmc : m ≤ cf := by rw [hm2, ← hrun1.2]; exact Hres.out.1.sw.b1
        have Hm2 := Lib.hid hm2
        have Hrun1 := Lib.hid hrun1
        clear hv2 hl2 hm2 hrun1
        go_upto_if 69 with fail
        go_cut [8] (fun v8 wx => ∃ (l : List Nat) (vl5 : Rl → Value), v8 = .int .i64 ((roomS k1 l).room : Nat) ∧ Hid (l.Perm k.st.learned) ∧ Hid (SAt wx B S ad' vl5 (roomS k1 l).st) ∧ Hid (Stp w1 B S ad vl wx ad' vl5))
        case first =>
          by_cases hrl5 : rm < m
          · have z5 : decide (rm < m) = true := decide_eq_true hrl5
            have hrk1 : Rb k1.st := by
              have hq1 : Rb q1 := by have := Rb.units (dcl_Dd _) (k.st.vars + 1) k.st Hk.out.sv.ui HK.out.2.2.2; rw [← Hq.out] at this; exact this
              rw [Hk1.out]; unfold restS; split; exact hq1.back 0; exact hq1
            have hF := HF.out (by omega) wc ad' vl4 k1.st H4.out Hres.out.1.ui.shp hrk1 (fun d hd => ⟨(Hres.out.1.sw.ln d hd).1, (Hres.out.1.sw.ln d hd).2, by have := Hres.out.1.sw.us d; have := Hrun1.out.2; omega, (Hres.out.1.ui.lt d (Hres.out.1.sw.ln d hd).1).1, (Hres.out.1.ui.lt d (Hres.out.1.sw.ln d hd).1).2.2.1⟩) (by rw [← Hm2.out]; omega) (by rw [← Hm2.out]; omega)
            have HFF := Lib.hid hF
            clear hF hrk1
            go_wp2_with (go_at_call 55; with_reducible refine HFF.out.mono ?_; rintro e w5 ⟨rfl, l, vl5, hpl, h5, p5⟩; go_loud (have HPl := Lib.hid hpl; have H5 := Lib.hid h5; have P5 := Lib.hid (P4.out.trans p5); clear hpl h5 p5))
            go_meet
            case rel =>
              have hys := roomS_yes (k := k1) (l := l) (by rw [Hrun1.out.1, ← Hm2.out]; exact hrl5)
              exact ⟨l, vl5, by rw [hys]; show _ = Value.int .i64 ((k1.room + k1.room / 4 : Nat) : Int); rw [Hrun1.out.1]; rfl, Lib.hid (Hres.out.2.2.2 ▸ HPl.out), by rw [hys]; exact H5, P5⟩
          · have z5 : decide (rm < m) = false := decide_eq_false hrl5
            have hno := roomS_no (k := k1) (l := k1.st.learned) (by rw [Hrun1.out.1, ← Hm2.out]; exact hrl5)
            have Hno := Lib.hid hno
            clear hno
            go_wp2
            go_meet
            case rel =>
              exact ⟨k1.st.learned, vl4, by rw [Hno.out, Hrun1.out.1], Lib.hid (by rw [Hres.out.2.2.2]), by rw [Hno.out]; exact H4, P4⟩
        case rest =>
          obtain ⟨l, vl5, rfl, HPl, H5, P5⟩ := hcut
          obtain ⟨k2, hk2⟩ : ∃ k2, k2 = roomS k1 l := ⟨_, rfl⟩
          have hrd := Hk.out.ready HPl.out (by rw [← Hq.out])
          have hre : readyS k l = k2 := by unfold readyS; rw [← Hq.out, hk2, Hk1.out]
          rw [hre] at hrd
          rw [← hk2] at H5
          have hc2 : k2.conf = cf := by rw [hrd.2.2.2.1, Hcf.out]
          have hfr : r1 = k2.rest ∧ l1 = k2.left := by rw [Hr1.out, Hl1.out, hk2]; unfold roomS; split <;> exact ⟨rfl, rfl⟩
          have hrbk : Rb k2.st := by
            have hq1 : Rb q1 := by have := Rb.units (dcl_Dd _) (k.st.vars + 1) k.st Hk.out.sv.ui HK.out.2.2.2; rw [← Hq.out] at this; exact this
            have hk1r : Rb k1.st := by rw [Hk1.out]; unfold restS; split; exact hq1.back 0; exact hq1
            rw [hk2]; unfold roomS; split; exact hk1r.forget l; exact hk1r
          have hkq : roomS (restS k q1) l = k2 := by rw [hk2, Hk1.out]
          have Hkq := Lib.hid hkq
          have h2sv := hrd.1
          have h2len := h2sv.ui.tr.len
          have h2el := h2sv.ui.tr.elen
          have h2v : k2.st.vars ≤ 2000 := h2sv.ui.shp.sm
          have HD := Lib.hid (decide_any H5.out h2sv.ui.shp (by omega) (by omega))
          have H2sv := Lib.hid h2sv
          have Hrbk := Lib.hid hrbk
          have Hc2 := Lib.hid hc2
          have Hfr := Lib.hid hfr
          have Hk2 := Lib.hid hk2
          rw [← hk2]
          obtain ⟨r2, hr2⟩ : ∃ r2, r2 = k2.room := ⟨_, rfl⟩
          rw [← hr2]
          have Hr2 := Lib.hid hr2
          clear hrd hre hc2 hfr hrbk hkq h2sv hk2 hr2
          cases hdec : decideS k2.st with
          | none =>
            rw [hdec] at HD
            have hround := round_sat (most := most) (l := l) Hq.out (by rw [Hkq.out]; exact hdec)
            rw [Hkq.out, Hc2.out] at hround
            have Hround := Lib.hid hround
            have HD2 := Lib.hid (show Calls Try.prog 56 #[.pointer (some ⟨S, 0, none⟩)] wc fun e w' => e = .returned (.bool false) ∧ SAt w' B S ad' vl5 k2.st ∧ Stp wc B S ad' vl5 w' ad' vl5 from HD.out)
            clear hdec hround HD
            go_wp2_with (first
              | (go_at_call 56; with_reducible refine HD2.out.mono ?_; rintro e w6 ⟨rfl, h6, p6⟩; go_loud (have H6 := Lib.hid h6; have P6 := Lib.hid (P5.out.trans p6); clear h6 p6))
              | (go_at_call 57; with_reducible refine (truths_any H6.out H2sv.out.ui.shp).mono ?_; rintro e w7 ⟨tv, rfl, o7, b7⟩; go_loud (obtain ⟨A7, c7, hv7⟩ := o7.shape; rw [List.length_map] at hv7; subst hv7; have O7 := Lib.hid o7; have B7 := Lib.hid b7; have r7 := (kp_new b7 rb).at_ ((P6.out.kp hnf).at_ HR1.out); obtain ⟨s0, s1, s2, s3, sf⟩ := res_at r7; have R7 := Lib.hid r7; clear o7 b7 r7)))
            try rw [Exit.noGoto_ret]
            refine bodyPost_ret (results_cell_row rfl _ _ rb _ _ (0, 0) _ rfl (set4R R7.out _ _ _ _) Try.underlying69 rfl (by kernel_rfl)) rfl ?_
            have hr6 : rb < w6.heap.size := (Array.getElem?_eq_some_iff.1 ((P6.out.kp hnf).at_ HR1.out)).1
            refine ⟨.sat (truthsS k2.st) cf, _, Run.to_stop HK.out.2.1 HPl.out Hround.out, rfl, ⟨_, rfl, reads4 RBools.stable (truths_reads O7.out hr6 H6.out.size) _ _ _ _⟩, below4R ((HB1.out.trans P6.out.below).trans (B7.out.mono H6.out.size)) (by rw [Hrb.out]; exact H.out.size) _ _ _ _⟩
          | some t =>
            rw [hdec] at HD
            have hround := round_dec (most := most) (l := l) Hq.out (by rw [Hkq.out]; exact hdec)
            rw [Hkq.out] at hround
            obtain ⟨hnx1, hnx2⟩ := Hk.out.next Hcs.out HPl.out hround
            have hrun := Run.to_step HK.out.2.1 HPl.out hround
            have Hnx1 := Lib.hid hnx1
            have Hnx2 := Lib.hid hnx2
            have Hrun := Lib.hid hrun
            have Hrbt := Lib.hid (Hrbk.out.decide hdec)
            have HD2 := Lib.hid (show Calls Try.prog 56 #[.pointer (some ⟨S, 0, none⟩)] wc fun e w' => e = .returned (.bool true) ∧ ∃ vl6, SAt w' B S ad' vl6 t ∧ Stp wc B S ad' vl5 w' ad' vl6 from HD.out)
            clear hdec hround hnx1 hnx2 hrun HD
            go_wp2_with (go_at_call 56; with_reducible refine HD2.out.mono ?_; rintro e w6 ⟨rfl, vl6, h6, p6⟩; go_loud (have H6 := Lib.hid h6; have P6 := Lib.hid (P5.out.trans p6); clear h6 p6))
            go_roundg (muS n most { k2 with st := t })
            case rel => exact ⟨{ k2 with st := t }, ad', vl6, by rw [← Hc2.out], by rw [← Hfr.out.1], by rw [← Hfr.out.2], by rw [Hr2.out], Lib.hid ⟨Hnx1.out, Hrun.out, rfl, Hrbt.out⟩, H6, P6⟩
            case measure => rw [HK.out.2.2.1]; exact Hnx2.out
end Go.Proofs.Ytcebafeaikipmaa.S15
