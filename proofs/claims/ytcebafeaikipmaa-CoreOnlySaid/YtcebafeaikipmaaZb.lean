/- set: a literal is true. / attach: a clause is watched. / What slices.Index, slices.Contains on rows of literals compute. / .. -/
import Derived.Deep.RegionHeld3
import Derived.Deep.DeepCutAuto
import Derived.Deep.RegionHeld
import Derived.Test.YtcebafeaikipmaaZa
namespace Go.Proofs.Ytcebafeaikipmaa.S15
open Go.RowKit

theorem nt_ne (x : Nat) : nt x ≠ x := by unfold nt; split <;> omega
set_option maxHeartbeats 2000000 in
theorem set_any {w : World} {B S : Nat} {ad : List Nat} {vl : Rl → Value} {s : St} (h : SAt w B S ad vl s) (x : Nat) (b : Option Nat) (hx : x < s.value.length) (hx2 : nt x < s.value.length) (hl : x / 2 < s.level.length) (hr : x / 2 < s.reason.length) (hz : s.value.length ≤ 100000) (ht : s.trail.length ≤ 100000) :
    Calls Try.prog 48 #[.pointer (some ⟨S, 0, none⟩), .int .i64 (x : Int), oC ad b] w fun e w' => e = .returned (.tuple #[]) ∧ ∃ v, SAt w' B S ad (updV vl .tr v) (setS s x b) ∧ Stp w B S ad vl w' ad (updV vl .tr v) := by
  obtain ⟨gv, cv, hva, -, hgv, -, -⟩ := (h.rows .va).form (by simp [cont]; omega)
  obtain ⟨gl, cl, hle, -, hgl, -, -⟩ := (h.rows .le).form (by simp [cont]; omega)
  obtain ⟨gr, cr, hre, -, hgr, -, -⟩ := (h.rows .re).form (by simp [cont]; omega)
  have nS1 : gv ≠ S := h.neS .va (by rw [hva]; rfl)
  have nS2 : gl ≠ S := h.neS .le (by rw [hle]; rfl)
  have nS3 : gr ≠ S := h.neS .re (by rw [hre]; rfl)
  simp only [cont, List.length_map] at hva hle hre
  -- the two values
  have h1 := h.setRow .va hva x (.int .u8 1) { s with value := s.value.set x 1 } (fun r hr => by cases r <;> first | rfl | exact absurd rfl hr) (by simp [cont, List.map_set]) rfl rfl (fun _ _ => rfl)
  have p1 := h.stpRow .va hva x (.int .u8 1)
  have h2 := h1.setRow .va hva (nt x) (.int .u8 2) { s with value := (s.value.set x 1).set (nt x) 2 } (fun r hr => by cases r <;> first | rfl | exact absurd rfl hr) (by simp [cont, List.map_set]) rfl rfl (fun _ _ => rfl)
  have p2 := p1.trans (h1.stpRow .va hva (nt x) (.int .u8 2))
  have c0 := h.cellS (k := 4) (v := vl .va) rfl
  rw [hva] at c0
  have e1 := h.rows .va
  rw [hva] at e1
  have d1 : w.cell? ⟨gv, x, none⟩ = some (.int .u8 (s.value[x] : Int)) := e1.cell (by simp [cont, hx])
  have d2 : w.cell? ⟨gv, nt x, none⟩ = some (.int .u8 (s.value[nt x] : Int)) := e1.cell (by simp [cont, hx2])
  have f1 := e1.frozen
  have hne := nt_ne x
  obtain ⟨v, hv⟩ : ∃ v, x / 2 = v := ⟨_, rfl⟩
  obtain ⟨p, hp⟩ : ∃ p, p = b.map fun c => (⟨ad.getD c 0, 0, none⟩ : Addr) := ⟨_, rfl⟩
  have hpo : oC ad b = .pointer p := by rw [hp]; rfl
  have Hpo := Lib.hid hpo
  have Hv := Lib.hid hv
  rw [hv] at hl hr
  rw [hpo]
  have H2 := Lib.hid h2
  have P2 := Lib.hid p2
  clear h h1 h2 p1 p2 e1 hpo hp hv
  go_enter Try.func48, Try.ntmps48
  go_upto_region 1 with (go_at_call 61; with_reducible refine (variable_is Hv.out _ (by omega)).mono ?_; rintro e w1 ⟨rfl, rfl⟩)
  go_region_held3 (fun w' => w'.cell? ⟨S, 4, none⟩ = some (.slice (some ⟨gv, 0, none⟩) s.value.length cv))
    (first | go_keep)
    (first | (go_at_call 60; with_reducible refine (not_any x _ (by omega)).mono ?_; rintro e w1 ⟨rfl, rfl⟩))
  clear c0 d1 d2 f1
  obtain ⟨w2, hw2⟩ : ∃ w2, w2 = ((w1.setCell ⟨gv, x, none⟩ (.int .u8 1)).setCell ⟨gv, nt x, none⟩ (.int .u8 2)).drew := ⟨_, rfl⟩
  have Hw2 := Lib.hid hw2
  rw [← hw2]
  have H3 := Lib.hid (show SAt w2 B S ad vl { s with value := (s.value.set x 1).set (nt x) 2 } by rw [hw2]; exact H2.out.new (Below.refl _ _).drew)
  have P3 := Lib.hid (show Stp w1 B S ad vl w2 ad vl by rw [hw2]; exact P2.out.trans (H2.out.stpNew (Below.refl _ _).drew))
  clear hw2 H2 P2
  have c5 := H3.out.cellS (k := 5) (v := vl .le) rfl
  have c6 := H3.out.cellS (k := 6) (v := vl .re) rfl
  rw [hle] at c5
  rw [hre] at c6
  have e5 := H3.out.rows .le
  rw [hle] at e5
  have e6 := H3.out.rows .re
  rw [hre] at e6
  have d5 : w2.cell? ⟨gl, v, none⟩ = some (.int .i64 (s.level[v] : Int)) := e5.cell (by simp [cont, hl])
  have d6 : w2.cell? ⟨gr, v, none⟩ = some (oC ad s.reason[v]) := e6.cell (by simp [cont, hr])
  have f5 := e5.frozen
  have f6 := e6.frozen
  have nLR : gl ≠ gr := fun e => by
    have := H3.out.apart .le .re gl (by rw [hle]; rfl) (by rw [hre, e]; rfl)
    cases this
  have hgl2 : gl < w2.heap.size := (H3.out.rows .le).lt gl (by rw [hle]; rfl) |>.2
  have hgr2 : gr < w2.heap.size := (H3.out.rows .re).lt gr (by rw [hre]; rfl) |>.2
  have HN := Lib.hid (now_any (H3.out.new (Below.refl _ _).drew))
  clear e5 e6 hgv hgl hgr
  obtain ⟨s3, hs3⟩ : ∃ s3 : St, s3 = { s with value := (s.value.set x 1).set (nt x) 2 } := ⟨_, rfl⟩
  have h4 := H3.out.setRow .le hle v (.int .i64 (s.ends.length : Nat)) { s with value := (s.value.set x 1).set (nt x) 2, level := s.level.set v s.ends.length } (fun r hr => by cases r <;> first | rfl | exact absurd rfl hr) (by simp [cont, List.map_set]) rfl rfl (fun _ _ => rfl)
  have h5 := h4.setRow .re hre v (.pointer p) { s with value := (s.value.set x 1).set (nt x) 2, level := s.level.set v s.ends.length, reason := s.reason.set v b } (fun r hr => by cases r <;> first | rfl | exact absurd rfl hr) (by simp [cont, List.map_set, Hpo.out]) rfl rfl (fun _ _ => rfl)
  have p5 := (P3.out.trans (H3.out.stpRow .le hle v (.int .i64 (s.ends.length : Nat)))).trans (h4.stpRow .re hre v (.pointer p))
  have H5 := Lib.hid h5
  have P5 := Lib.hid p5
  clear h4 h5 p5 hs3
  go_wp2_with fail
  go_region_held3 (fun w' => w'.cell? ⟨S, 5, none⟩ = some (.slice (some ⟨gl, 0, none⟩) s.level.length cl) ∧ w'.cell? ⟨S, 6, none⟩ = some (.slice (some ⟨gr, 0, none⟩) s.reason.length cr))
    (first | go_keep)
    (first | (go_at_call 51; with_reducible refine HN.out.mono ?_; rintro e w4 ⟨rfl, rfl⟩))
  clear HN c5 c6 d5 d6 f5 f6
  obtain ⟨w4, hw4⟩ : ∃ w4, w4 = ((w2.setCell ⟨gl, v, none⟩ (.int .i64 (s.ends.length : Nat))).setCell ⟨gr, v, none⟩ (.pointer p)).drew := ⟨_, rfl⟩
  rw [← hw4]
  have H6 := Lib.hid (show SAt w4 B S ad vl { s with value := (s.value.set x 1).set (nt x) 2, level := s.level.set v s.ends.length, reason := s.reason.set v b } by rw [hw4]; exact H5.out.new (Below.refl _ _).drew)
  have P6 := Lib.hid (show Stp w1 B S ad vl w4 ad vl by rw [hw4]; exact P5.out.trans (H5.out.stpNew (Below.refl _ _).drew))
  clear hw4 H5 P5
  obtain ⟨At, ct, htr⟩ := (H6.out.rows .tr).shape
  simp only [cont, List.length_map] at htr
  have c10 := H6.out.cellS (k := 10) (v := vl .tr) rfl
  rw [htr] at c10
  have e10 := H6.out.rows .tr
  rw [htr] at e10
  have HO := Lib.hid (show OwnG w4 B 94 (.slice At s.trail.length ct) (iN s.trail) from e10)
  have Htr := Lib.hid htr
  clear htr e10
  go_wp2_with (at_builtin; refine wpList_pushG rfl _ _ _ rfl eLit (v := .slice At s.trail.length ct) rfl (HO.out.kp fun _ _ => kp_new (below_alloc _ _) _) w4.heap.size (.int .i64 (x : Int)) rfl (one_new w4 _ _) rfl (by simp; omega) (by have := H6.out.size; simp; omega) ?_; intro v' w5 hown hg hn; rw [← Htr.out] at hg hn; obtain ⟨A', c', rfl⟩ := hown.shape
               obtain ⟨q1, q2, q3⟩ := H6.out.pushSl .tr 10 (below_alloc _ _) (setS s x b) hown hg hn (by simp [cont, setS]) (fun r hr => by cases r <;> first | rfl | exact absurd rfl hr | (simp [cont, setS, Hv.out]; done)) rfl rfl (fun _ _ => rfl)
               (have j10 : w5.cell? ⟨S, 10, none⟩ = some (vl .tr) := cell_of_row w5 S 10 _ _ (0, 0) q3; have jf := frozen_of_row w5 S 10 _ _ q3; have H7 := Lib.hid q1; have P7 := Lib.hid (P6.out.trans q2); clear q1 q2 q3 hown hg hn))
  go_end0
  rw [List.length_append, List.length_map, List.length_singleton] at H7 P7
  exact ⟨rfl, _, H7.out, P7.out⟩
end Go.Proofs.Ytcebafeaikipmaa.S15

namespace Go.Proofs.Ytcebafeaikipmaa.S15
open Go.RowKit

theorem foldl_take_succ {α β : Type} (f : α → β → α) (a : α) (l : List β) (k : Nat) (h : k < l.length) : (l.take (k + 1)).foldl f a = f ((l.take k).foldl f a) l[k] := by
  rw [List.take_succ_eq_append_getElem h, List.foldl_append]
  rfl
theorem attach_fold (s : St) (c : Nat) (h : 2 ≤ (s.cl c).lits.length) : attachS s c = ((s.cl c).lits.take 2).foldl (fun s x => pushW s x c) s := by
  unfold attachS
  match h2 : (s.cl c).lits with
  | [] => rw [h2] at h; simp at h
  | [_] => rw [h2] at h; simp at h
  | a :: b :: r => rfl
theorem pushWs (l : List Nat) (c : Nat) : ∀ s : St, (l.foldl (fun s x => pushW s x c) s).watch.length = s.watch.length ∧ (l.foldl (fun s x => pushW s x c) s).cls = s.cls := by
  induction l with
  | nil => intro s; exact ⟨rfl, rfl⟩
  | cons x l ih =>
    intro s
    rw [List.foldl_cons]
    exact ⟨(ih _).1.trans (by simp [pushW]), (ih _).2⟩
theorem pushW_lt (s : St) (x c : Nat) (M : Nat) (h : ∀ i, (s.watch.getD i []).length ≤ M) : ∀ i, ((pushW s x c).watch.getD i []).length ≤ M + 1 := by
  intro i
  unfold pushW
  simp only [List.getD_eq_getElem?_getD, List.getElem?_set]
  split
  · split
    · simp only [Option.getD_some, List.length_append, List.length_singleton]
      have := h x
      simp only [List.getD_eq_getElem?_getD] at this
      omega
    · simp
  · have := h i
    simp only [List.getD_eq_getElem?_getD] at this
    omega
set_option maxHeartbeats 4000000 in
theorem attach_any {w : World} {B S : Nat} {ad : List Nat} {vl : Rl → Value} {s : St} (h : SAt w B S ad vl s) (c : Nat) (hc : c < s.cls.length) (h2 : 2 ≤ (s.cl c).lits.length) (hlt : ∀ x ∈ (s.cl c).lits, x < s.watch.length) (M : Nat) (hM : ∀ i, (s.watch.getD i []).length ≤ M) (hMl : M ≤ 1000000000) :
    Calls Try.prog 49 #[.pointer (some ⟨S, 0, none⟩), pC ad c] w fun e w' => e = .returned (.tuple #[]) ∧ ∃ vl', SAt w' B S ad vl' (attachS s c) ∧ Stp w B S ad vl w' ad vl' := by
  rw [attach_fold s c h2]
  obtain ⟨L, hL⟩ : ∃ L, L = (s.cl c).lits := ⟨_, rfl⟩
  rw [← hL] at h2 hlt ⊢
  obtain ⟨gl, cl, hli, -, hgl, hcl, hcl2⟩ := (h.rows (.li c)).form (by simp [cont, ← hL]; omega)
  simp only [cont, List.length_map, ← hL] at hli hcl
  have c0 : w.cell? ⟨ad.getD c 0, 0, none⟩ = some (vl (.li c)) := h.cellC (k := 0) hc rfl
  rw [hli] at c0
  have hcl3 : cl ≤ 9223372036854775807 := by unfold maxLen at hcl2; omega
  have H := Lib.hid h
  have HL := Lib.hid hL
  have Hli := Lib.hid hli
  have Hlt := Lib.hid hlt
  have HM := Lib.hid hM
  obtain ⟨a, ha⟩ : ∃ a, a = ad.getD c 0 := ⟨_, rfl⟩
  have Ha := Lib.hid ha
  unfold pC
  rw [← ha] at c0 ⊢
  clear h hL hli hlt hM ha
  go_enter Try.func49, Try.ntmps49
  go_wp2
  go_loopw [12] (fun kv wr => ∃ (k : Nat) (vl' : Rl → Value), k ≤ 2 ∧ kv = .int .i64 k ∧ Hid (SAt wr B S ad vl' ((L.take k).foldl (fun s x => pushW s x c) s)) ∧ Hid (Stp w B S ad vl wr ad vl') ∧ Hid (vl' (.li c) = .slice (some ⟨gl, 0, none⟩) L.length cl) ∧ Hid (∀ i, (((L.take k).foldl (fun s x => pushW s x c) s).watch.getD i []).length ≤ M + k)) (fun kv _ => 2 - (intOf kv).toNat)
  case atStart => exact ⟨0, vl, Nat.zero_le _, rfl, H, Lib.hid (Stp.refl _ _ _ _ _), Hli, HM⟩
  case round =>
    obtain ⟨k, vk, hkle, rfl, HK, PK, HlK, HMk⟩ := hrel
    rcases Nat.lt_or_ge k 2 with hk | hk
    · have hkL : k < L.length := by omega
      obtain ⟨T, hT⟩ : ∃ T, T = (L.take k).foldl (fun s x => pushW s x c) s := ⟨_, rfl⟩
      have hwl : T.watch.length = s.watch.length ∧ T.cls = s.cls := by rw [hT]; exact pushWs _ _ _
      have HT := Lib.hid hT
      rw [← hT] at HK HMk
      clear hT
      have eL := HK.out.rows (.li c)
      rw [HlK.out] at eL
      have hTl : (T.cl c).lits = L := by rw [HL.out]; unfold St.cl; rw [hwl.2]
      have d0 : wr.cell? ⟨gl, k, none⟩ = some (.int .i64 (L[k] : Nat)) := eL.cell (by simp [cont, hTl, hkL])
      have hx : L[k] < T.watch.length := by rw [hwl.1]; exact Hlt.out _ (List.getElem_mem hkL)
      obtain ⟨gw, cw, hwt, -, hgw, -, -⟩ := (HK.out.rows .wt).form (by simp [cont]; omega)
      simp only [cont, List.length_map, List.length_range] at hwt
      have c3 := HK.out.cellS (k := 3) (v := vk .wt) rfl
      rw [hwt] at c3
      have eW := HK.out.rows .wt
      rw [hwt] at eW
      have d1 : wr.cell? ⟨gw, L[k], none⟩ = some (vk (.wr L[k])) := eW.cell (by simp [cont, hx])
      obtain ⟨Ar, cr, hwr⟩ := (HK.out.rows (.wr L[k])).shape
      simp only [cont, List.length_map] at hwr
      rw [hwr] at d1
      have hO := HK.out.rows (.wr L[k])
      rw [hwr] at hO
      have HO := Lib.hid (show OwnG wr B 96 (.slice Ar (T.watch.getD L[k] []).length cr) ((T.watch.getD L[k] []).map (pC ad)) from hO)
      clear hO hwl hTl
      have hln : (T.watch.getD L[k] []).length ≤ 1000000010 := by have := HMk.out L[k]; omega
      have Hwr := Lib.hid hwr
      have Hwt := Lib.hid hwt
      have hsz := HK.out.size
      have hSl := HK.out.lt
      have nWS : gw ≠ S := HK.out.neS .wt (by rw [hwt]; rfl)
      have c3a : ((wr.alloc (.cells #[.pointer (some ⟨a, 0, none⟩)] 96)).drew).cell? ⟨S, 3, none⟩ = some (.slice (some ⟨gw, 0, none⟩) T.watch.length cw) := (World.cell?_of_block (a := ⟨S, 3, none⟩) (Below.heap_alloc wr _ S hSl)).trans c3
      have Hpa := Lib.hid (show Value.pointer (some ⟨a, 0, none⟩) = pC ad c by rw [Ha.out]; rfl)
      obtain ⟨x, hxx⟩ : ∃ x, x = L[k] := ⟨_, rfl⟩
      have Hxx := Lib.hid hxx
      rw [← hxx] at d0 d1 hx HO hln Hwr
      obtain ⟨Q, hQ⟩ : ∃ Q, Q = T.watch.getD x [] := ⟨_, rfl⟩
      rw [← hQ] at d1 HO Hwr hln
      have HcQ := Lib.hid (show cont T ad vk (.wr x) = Q.map (pC ad) by rw [hQ]; rfl)
      clear eL eW hwr hwt hxx hQ
      go_wp2_with fail
      refine wp_region_held_drew (S := (fun w' => w'.cell? ⟨S, 3, none⟩ = some (.slice (some ⟨gw, 0, none⟩) T.watch.length cw))) (by kernel_rfl) c3 (fun hHeld => ?_)
      refine wpAnyH_take (i := 0) (v := ?_) rfl (by kernel_rfl) (by kernel_rfl) (by kernel_rfl) (fun _ _ _ h => h) (Or.inl ⟨by rfl, ?_⟩) (by assumption) ?_
      rotate_left
      · intro w1 hSw
        (try dsimp only at hSw)
        go_simp
        (try with_reducible rfl)
      (try dsimp only [Act.put, List.setIfInBounds_toArray, List.set_cons_zero, List.set_cons_succ])
      refine wpAnyH_take (i := 1) (v := ?_) rfl (by kernel_rfl) (by kernel_rfl) (by kernel_rfl) (fun _ _ _ h => h) (Or.inl ⟨by rfl, ?_⟩) (by assumption) ?_
      rotate_left
      · intro w1 hSw
        (try dsimp only at hSw)
        go_simp
        (try with_reducible rfl)
      (try dsimp only [Act.put, List.setIfInBounds_toArray, List.set_cons_zero, List.set_cons_succ])
      refine wpAnyH_take (i := 2) (v := ?_) rfl (by kernel_rfl) (by kernel_rfl) (by kernel_rfl) (fun _ _ _ h => h) (Or.inl ⟨by rfl, ?_⟩) (by assumption) ?_
      rotate_left
      · intro w1 hSw
        (try dsimp only at hSw)
        go_simp
        (try with_reducible rfl)
      (try dsimp only [Act.put, List.setIfInBounds_toArray, List.set_cons_zero, List.set_cons_succ])
      refine wpAnyH_take (i := 3) (v := ?_) rfl (by kernel_rfl) (by kernel_rfl) (by kernel_rfl) (fun _ _ _ h => h) (Or.inl ⟨by rfl, ?_⟩) (by assumption) ?_
      rotate_left
      · intro w1 hSw
        (try dsimp only at hSw)
        go_simp
        (try with_reducible rfl)
      (try dsimp only [Act.put, List.setIfInBounds_toArray, List.set_cons_zero, List.set_cons_succ])
      refine wpAnyH_take (i := 4) (v := ?_) rfl (by kernel_rfl) (by kernel_rfl) (by kernel_rfl) (fun _ _ _ h => h) (Or.inl ⟨by rfl, ?_⟩) (by assumption) ?_
      rotate_left
      · intro w1 hSw
        (try dsimp only at hSw)
        go_simp
        (try with_reducible rfl)
      (try dsimp only [Act.put, List.setIfInBounds_toArray, List.set_cons_zero, List.set_cons_succ])
      refine wpAnyH_take (i := 5) (v := ?_) rfl (by kernel_rfl) (by kernel_rfl) (by kernel_rfl) (fun _ _ _ h => h) (Or.inl ⟨by rfl, ?_⟩) (by assumption) ?_
      rotate_left
      · intro w1 hSw
        (try dsimp only at hSw)
        go_simp
        (try with_reducible rfl)
      (try dsimp only [Act.put, List.setIfInBounds_toArray, List.set_cons_zero, List.set_cons_succ])
      refine wpAnyH_take (i := 6) (v := ?_) rfl (by kernel_rfl) (by kernel_rfl) (by kernel_rfl) (fun _ _ _ h => h) (Or.inl ⟨by rfl, ?_⟩) (by assumption) ?_
      rotate_left
      · intro w1 hSw
        (try dsimp only at hSw)
        go_simp
        (try with_reducible rfl)
      (try dsimp only [Act.put, List.setIfInBounds_toArray, List.set_cons_zero, List.set_cons_succ])
      refine wpAnyH_take (i := 7) (v := ?_) rfl (by kernel_rfl) (by kernel_rfl) (by kernel_rfl) (fun _ _ _ h => h) (Or.inl ⟨by rfl, ?_⟩) (by assumption) ?_
      rotate_left
      · intro w1 hSw
        (try dsimp only at hSw)
        go_simp
        (try with_reducible rfl)
      (try dsimp only [Act.put, List.setIfInBounds_toArray, List.set_cons_zero, List.set_cons_succ])
      refine wpAnyH_take (i := 8) (v := ?_) rfl (by kernel_rfl) (by kernel_rfl) (by kernel_rfl) (fun _ _ _ h => h) (Or.inl ⟨by rfl, ?_⟩) (by assumption) ?_
      rotate_left
      · intro w1 hSw
        (try dsimp only at hSw)
        go_simp
        (try with_reducible rfl)
      (try dsimp only [Act.put, List.setIfInBounds_toArray, List.set_cons_zero, List.set_cons_succ])
      refine wpAnyH_take (i := 9) (v := ?_) rfl (by kernel_rfl) (by kernel_rfl) (by kernel_rfl) (fun _ _ _ h => h) (Or.inl ⟨by rfl, ?_⟩) (by assumption) ?_
      rotate_left
      · intro w1 hSw
        (try dsimp only at hSw)
        go_simp
        (try with_reducible rfl)
      (try dsimp only [Act.put, List.setIfInBounds_toArray, List.set_cons_zero, List.set_cons_succ])
      refine wpAnyH_take (i := 10) (v := ?_) rfl (by kernel_rfl) (by kernel_rfl) (by kernel_rfl) (fun _ _ _ h => h) (Or.inl ⟨by rfl, ?_⟩) (by assumption) ?_
      rotate_left
      · intro w1 hSw
        (try dsimp only at hSw)
        go_simp
        (try with_reducible rfl)
      (try dsimp only [Act.put, List.setIfInBounds_toArray, List.set_cons_zero, List.set_cons_succ])
      refine wpAnyH_take (i := 12) (v := ?_) rfl (by kernel_rfl) (by kernel_rfl) (by kernel_rfl) (fun _ _ _ h => h) (Or.inl ⟨by rfl, ?_⟩) (by assumption) ?_
      rotate_left
      · intro w1 hSw
        (try dsimp only at hSw)
        go_simp
        (try with_reducible rfl)
      (try dsimp only [Act.put, List.setIfInBounds_toArray, List.set_cons_zero, List.set_cons_succ])
      refine wpAnyH_ready (rs := [11, 13]) (by kernel_rfl) (by simp) ?_
      refine AllReadyH.cons rfl (fun K hK => ?_) (AllReadyH.cons rfl (fun K hK => ?_) AllReadyH.nil)
      · skip
        go_simp
        refine hK.out _ _ c3 (fun hHeld => ?_)
        clear hK K
        (try dsimp only [Act.put, List.setIfInBounds_toArray, List.set_cons_zero, List.set_cons_succ])
        refine wpAnyH_ready (rs := [13]) (by kernel_rfl) (by simp) ?_
        refine AllReadyH.cons rfl (fun K hK => ?_) AllReadyH.nil
        go_simp
        refine hK.out _ _ c3a (fun hHeld => ?_)
        clear hK K
        (try dsimp only [Act.put, List.setIfInBounds_toArray, List.set_cons_zero, List.set_cons_succ])
        refine wpAnyH_ready (rs := [14]) (by kernel_rfl) (by simp) ?_
        refine AllReadyH.cons rfl (fun K hK => ?_) AllReadyH.nil
        refine step_pushG (by rfl) _ _ _ (by rfl) eCls (v := .slice Ar Q.length cr) (by rfl) (HO.out.kp fun _ _ => kp_new (below_alloc _ _) _) wr.heap.size (.pointer (some ⟨a, 0, none⟩)) (by rfl) (one_new wr _ _) (by rfl) (by simp; omega) (by simp; omega) ?_
        intro v' w5 hown hg hn
        rw [Hpa.out] at hown
        rw [← Hwr.out] at hg hn
        obtain ⟨A', c', rfl⟩ := hown.shape
        obtain ⟨q1, q2, q3, q4, q5⟩ := HK.out.pushWr x c (below_alloc wr (.cells #[.pointer (some ⟨a, 0, none⟩)] 96)).drew hx Hwt.out HcQ.out hown hg hn
        rw [Hwt.out] at q3
        rw [Hwr.out] at q4
        have H7 := Lib.hid q1
        have P7 := Lib.hid (PK.out.trans q2)
        clear q1 q2 hown hg hn
        refine hK.out _ _ q3 (fun hHeld => ?_)
        clear hK K
        (try dsimp only [Act.put, List.setIfInBounds_toArray, List.set_cons_zero, List.set_cons_succ])
        refine wpAnyH_take (i := 15) (v := ?_) rfl (by kernel_rfl) (by kernel_rfl) (by kernel_rfl) (fun _ _ _ h => h) (Or.inl ⟨by rfl, ?_⟩) (by assumption) ?_
        rotate_left
        · intro w1 hSw
          (try dsimp only at hSw)
          go_simp
          (try with_reducible rfl)
        (try dsimp only [Act.put, List.setIfInBounds_toArray, List.set_cons_zero, List.set_cons_succ])
        refine wpAnyH_ready (rs := [16]) (by kernel_rfl) (by simp) ?_
        refine AllReadyH.cons rfl (fun K hK => ?_) AllReadyH.nil
        go_simp
        refine hK.out _ _ (by rw [World.cell?_setCell_far _ _ _ _ nWS]; exact q3) (fun hHeld => ?_)
        clear hK K
        (try dsimp only [Act.put, List.setIfInBounds_toArray, List.set_cons_zero, List.set_cons_succ])
        refine wpAnyH_done (by kernel_rfl) ?_ _
        rw [List.length_append, List.length_map, List.length_singleton] at H7 P7
        clear q3 q4 q5 c3 c3a d0 d1
        go_wp2
        go_roundw
        case rel =>
          have hf := foldl_take_succ (fun s x => pushW s x c) s L k hkL
          rw [← HT.out, ← Hxx.out] at hf
          refine ⟨k + 1, _, by omega, by go_num, Lib.hid ?_, P7, Lib.hid ?_, Lib.hid ?_⟩
          · rw [hf]; exact H7.out
          · rw [updV_ne _ _ (by simp)]; exact HlK.out
          · rw [hf]; exact pushW_lt T x c (M + k) HMk.out
        case measure => simp [intOf]; omega
      · skip
        go_simp
        refine hK.out _ _ c3a (fun hHeld => ?_)
        clear hK K
        (try dsimp only [Act.put, List.setIfInBounds_toArray, List.set_cons_zero, List.set_cons_succ])
        refine wpAnyH_ready (rs := [11]) (by kernel_rfl) (by simp) ?_
        refine AllReadyH.cons rfl (fun K hK => ?_) AllReadyH.nil
        go_simp
        refine hK.out _ _ c3a (fun hHeld => ?_)
        clear hK K
        (try dsimp only [Act.put, List.setIfInBounds_toArray, List.set_cons_zero, List.set_cons_succ])
        refine wpAnyH_ready (rs := [14]) (by kernel_rfl) (by simp) ?_
        refine AllReadyH.cons rfl (fun K hK => ?_) AllReadyH.nil
        refine step_pushG (by rfl) _ _ _ (by rfl) eCls (v := .slice Ar Q.length cr) (by rfl) (HO.out.kp fun _ _ => kp_new (below_alloc _ _) _) wr.heap.size (.pointer (some ⟨a, 0, none⟩)) (by rfl) (one_new wr _ _) (by rfl) (by simp; omega) (by simp; omega) ?_
        intro v' w5 hown hg hn
        rw [Hpa.out] at hown
        rw [← Hwr.out] at hg hn
        obtain ⟨A', c', rfl⟩ := hown.shape
        obtain ⟨q1, q2, q3, q4, q5⟩ := HK.out.pushWr x c (below_alloc wr (.cells #[.pointer (some ⟨a, 0, none⟩)] 96)).drew hx Hwt.out HcQ.out hown hg hn
        rw [Hwt.out] at q3
        rw [Hwr.out] at q4
        have H7 := Lib.hid q1
        have P7 := Lib.hid (PK.out.trans q2)
        clear q1 q2 hown hg hn
        refine hK.out _ _ q3 (fun hHeld => ?_)
        clear hK K
        (try dsimp only [Act.put, List.setIfInBounds_toArray, List.set_cons_zero, List.set_cons_succ])
        refine wpAnyH_take (i := 15) (v := ?_) rfl (by kernel_rfl) (by kernel_rfl) (by kernel_rfl) (fun _ _ _ h => h) (Or.inl ⟨by rfl, ?_⟩) (by assumption) ?_
        rotate_left
        · intro w1 hSw
          (try dsimp only at hSw)
          go_simp
          (try with_reducible rfl)
        (try dsimp only [Act.put, List.setIfInBounds_toArray, List.set_cons_zero, List.set_cons_succ])
        refine wpAnyH_ready (rs := [16]) (by kernel_rfl) (by simp) ?_
        refine AllReadyH.cons rfl (fun K hK => ?_) AllReadyH.nil
        go_simp
        refine hK.out _ _ (by rw [World.cell?_setCell_far _ _ _ _ nWS]; exact q3) (fun hHeld => ?_)
        clear hK K
        (try dsimp only [Act.put, List.setIfInBounds_toArray, List.set_cons_zero, List.set_cons_succ])
        refine wpAnyH_done (by kernel_rfl) ?_ _
        rw [List.length_append, List.length_map, List.length_singleton] at H7 P7
        clear q3 q4 q5 c3 c3a d0 d1
        go_wp2
        go_roundw
        case rel =>
          have hf := foldl_take_succ (fun s x => pushW s x c) s L k hkL
          rw [← HT.out, ← Hxx.out] at hf
          refine ⟨k + 1, _, by omega, by go_num, Lib.hid ?_, P7, Lib.hid ?_, Lib.hid ?_⟩
          · rw [hf]; exact H7.out
          · rw [updV_ne _ _ (by simp)]; exact HlK.out
          · rw [hf]; exact pushW_lt T x c (M + k) HMk.out
        case measure => simp [intOf]; omega
    · obtain rfl : k = 2 := by omega
      go_wp2
      go_end0
      exact ⟨rfl, _, HK.out, PK.out⟩
end Go.Proofs.Ytcebafeaikipmaa.S15

namespace Go.Proofs.Ytcebafeaikipmaa.S15
open Go.RowKit

set_option maxHeartbeats 400000 in
theorem IndexL_any (s : Value) (x : Int) (l : List Int) (w : World) {B : Nat} (hs : RInts w (Lt B) s l) :
    Calls Try.prog 68 #[s, .int .i64 x] w fun e w' => e = .returned (.int .i64 (idxI l x)) ∧ w = w' := by
  obtain ⟨A, c, rfl, hm, hat⟩ := hs.open_
  have Hat := Lib.hid hat; clear hat
  go_enter Try.func68, Try.ntmps68
  go_wp2
  go_loop [8] (fun sv => ∃ k : Nat, k ≤ (l).length ∧ sv = .int .i64 k ∧ Hid ((l.take k).any (fun y => y == x) = false)) (fun sv => (l).length - (intOf sv).toNat)
  case atStart => exact ⟨0, Nat.zero_le _, rfl, hid_nil_any _ _⟩
  case round =>
    obtain ⟨k, hkle, rfl, hkinv⟩ := hrel
    by_cases hklt : k < (l).length
    · obtain ⟨bk, offk, uk, rfl, hbk, hcellk, huk⟩ := Hat.out.lt_ hklt
      obtain rfl := huk
      by_cases hx : l[k] = x
      · have Hi := Lib.hid (findIdx_some_of (p := fun y => y == x) hklt hkinv (by simp [hx]))
        have hx1 : (x == l[k]) = true := by simp [hx]
        clear hx
        go_wp2
        go_ret
        exact ⟨ret_int (by rw [idxI, Hi.out]), rfl⟩
      · have hx1 : (x == l[k]) = false := by simp; exact fun h => hx h.symm
        have Hx2 := Lib.hid (show (l[k] == x) = false by simp [hx])
        clear hx
        go_wp2
        go_round
        case rel => exact ⟨k + 1, by omega, by go_num, hid_any_succ hklt hkinv Hx2.out⟩
        case measure => simp [intOf]; omega
    · obtain rfl : k = (l).length := by omega
      go_wp2
      go_ret
      exact ⟨ret_int (by rw [idxI, findIdx_none_of hkinv]), rfl⟩
set_option maxHeartbeats 400000 in
theorem ContainsL_any (s : Value) (x : Int) (l : List Int) (w : World) {B : Nat} (hs : RInts w (Lt B) s l) :
    Calls Try.prog 59 #[s, .int .i64 x] w fun e w' => e = .returned (.bool (hasB l x)) ∧ w = w' := by
  have Hn := Lib.hid (idxI_nonneg l x)
  have Hs := Lib.hid hs
  clear hs
  go_enter Try.func59, Try.ntmps59
  go_wp2_with (go_at_call 68; refine (IndexL_any _ _ l _ Hs.out).mono ?_; rintro e w1 ⟨rfl, rfl⟩)
  go_ret
  exact ⟨ret_bool Hn.out, rfl⟩
end Go.Proofs.Ytcebafeaikipmaa.S15

namespace Go.Proofs.Ytcebafeaikipmaa.S15
open Go.RowKit

abbrev zN (l : List Nat) : List Int := l.map fun (n : Nat) => (n : Int)
theorem ints_of_g {w : World} {S : Nat → Prop} {B : Nat} {t : TypeId} {v : Value} {l : List Nat} (h : OwnG w B t v (iN l)) (hS : ∀ g, v.ownBlock = some g → S g) : RInts w S v (zN l) := by
  rcases h with ⟨rfl, h⟩ | ⟨g, cap, cur, rfl, hb, hh, h1, h2, h3, h4⟩
  · have : l = [] := by simpa using h
    subst this
    exact RSl.nil_ _ _ _
  · rw [List.length_map] at h1
    refine ⟨some ⟨g, 0, none⟩, cap, by simp, by simpa using h1, by simpa using h3, fun hp => ⟨g, 0, rfl, hS g rfl, fun k hk => ?_⟩⟩
    rw [List.length_map] at hk
    refine ⟨.int .i64 (l[k] : Int), ?_, by simp [RInt]⟩
    rw [Nat.zero_add, cell_of_row _ _ k _ _ _ hh]
    have : (iN l)[k]? = some (.int .i64 (l[k] : Int)) := by simp [hk]
    rw [← h4, List.getElem?_take, if_pos (by simpa using hk)] at this
    simpa using this
theorem has_nat (l : List Nat) (x : Nat) : hasB (zN l) (x : Int) = decide (x ∈ l) := by
  rw [Bool.eq_iff_iff]
  simp only [hasB, List.contains_iff_mem, List.mem_map, decide_eq_true_eq]
  constructor
  · rintro ⟨a, h, e⟩
    obtain rfl : a = x := by omega
    exact h
  · exact fun h => ⟨x, h, rfl⟩
theorem ofI_le (n : Int) : ofI n ≤ 2 * n.natAbs + 1 := by unfold ofI; split <;> omega
theorem nt_le (x : Nat) : nt x ≤ x + 1 := by unfold nt; split <;> omega
theorem plainF_drop {c : List Int} {k : Nat} (h : k < c.length) (l : List Nat) : plainF (c.drop k) l = (if nt (ofI c[k]) ∈ l then none else if ofI c[k] ∈ l then plainF (c.drop (k + 1)) l else plainF (c.drop (k + 1)) (l ++ [ofI c[k]])) := by
  rw [List.drop_eq_getElem_cons h, plainF]
/-- what plain answers -/
def PlainOut (W0 : Nat) (r : Option (List Nat)) (e : Ending) (w' : World) : Prop :=
  match r with
  | none => e = .returned (.tuple #[.slice none 0 0, .bool false])
  | some l => ∃ v, e = .returned (.tuple #[v, .bool true]) ∧ OwnG w' W0 94 v (iN l)
set_option maxHeartbeats 4000000 in
theorem plain_any (cv : Value) (c : List Int) (w : World) {B : Nat} (hB : B ≤ w.heap.size) (hs : RInts w (Lt B) cv c) (hl : c.length ≤ 1000000) (hn : ∀ n ∈ c, n.natAbs ≤ 100000000) :
    Calls Try.prog 47 #[cv] w fun e w' => PlainOut w.heap.size (plainF c []) e w' ∧ Below w.heap.size w w' := by
  obtain ⟨A, cc, rfl, hm, hat⟩ := hs.open_
  have Hat := Lib.hid hat
  have Hn := Lib.hid hn
  obtain ⟨R, hR⟩ : ∃ R, R = plainF c [] := ⟨_, rfl⟩
  rw [← hR]
  have HR := Lib.hid (show R = plainF (c.drop 0) [] from hR)
  clear hat hs hn hR
  go_enter Try.func47, Try.ntmps47
  go_wp2
  go_loopw [10, 4] (fun kv lv wr => ∃ (k : Nat) (l : List Nat), k ≤ c.length ∧ kv = .int .i64 k ∧ Hid (OwnG wr w.heap.size 94 lv (iN l)) ∧ Hid (Below w.heap.size w wr) ∧ Hid (R = plainF (c.drop k) l) ∧ l.length ≤ k) (fun kv _ _ => c.length - (intOf kv).toNat)
  case atStart => exact ⟨0, [], Nat.zero_le _, rfl, Lib.hid (OwnG.nil _ _ _), Lib.hid (Below.refl _ _), HR, by simp⟩
  case round =>
    obtain ⟨k, l, hkle, rfl, HO, HB, HR2, hlk⟩ := hrel
    rcases Nat.lt_or_ge k c.length with hk | hk
    · obtain ⟨b, off, rfl, hb, hc⟩ := (Hat.out.agree RInt.stable (ag_of_below (HB.out.mono hB)) (fun _ h => h)) (by omega)
      obtain ⟨u, d0, hu⟩ := hc k hk
      obtain rfl := hu
      clear hc
      have hnk := Hn.out _ (List.getElem_mem hk)
      have h1 := ofI_le c[k]
      have h2 := nt_le (ofI c[k])
      obtain ⟨x, hx⟩ : ∃ x, x = ofI c[k] := ⟨_, rfl⟩
      have HF := Lib.hid (HR2.out.trans (plainF_drop hk l))
      have Hof := Lib.hid (fun w => of_any c[k] w (by omega))
      rw [← hx] at h1 h2 HF Hof
      have HI := Lib.hid (ints_of_g HO.out fun g hg => (HO.out.lt g hg).2)
      obtain ⟨Al, cl, hlv⟩ := HO.out.shape
      rw [List.length_map] at hlv
      subst hlv
      have C1 := Lib.hid (ContainsL_any _ (nt x : Int) (zN l) wr HI.out)
      have C2 := Lib.hid (ContainsL_any _ (x : Int) (zN l) wr HI.out)
      rw [has_nat] at C1 C2
      have hsz := HB.out.size
      clear hx HI
      by_cases hin : nt x ∈ l
      · have HF2 := Lib.hid (HF.out.trans (if_pos hin))
        rw [decide_eq_true hin] at C1
        clear hin
        go_wp2_with (first
          | (go_at_call 58; with_reducible refine (Hof.out _).mono ?_; rintro e w1 ⟨rfl, rfl⟩)
          | (go_at_call 60; with_reducible refine (not_any x _ (by omega)).mono ?_; rintro e w1 ⟨rfl, rfl⟩)
          | (go_at_call 59; with_reducible first | (refine C1.out.mono ?_; rintro e w1 ⟨rfl, rfl⟩) | (refine C2.out.mono ?_; rintro e w1 ⟨rfl, rfl⟩)))
        go_ret2
        refine ⟨?_, HB.out⟩
        rw [HF2.out]
        exact rfl
      · rw [decide_eq_false hin] at C1
        by_cases hix : x ∈ l
        · have HF2 := Lib.hid (HF.out.trans (by rw [if_neg hin, if_pos hix] : _ = plainF (c.drop (k + 1)) l))
          rw [decide_eq_true hix] at C2
          clear hin hix
          go_wp2_with (first
            | (go_at_call 58; with_reducible refine (Hof.out _).mono ?_; rintro e w1 ⟨rfl, rfl⟩)
            | (go_at_call 60; with_reducible refine (not_any x _ (by omega)).mono ?_; rintro e w1 ⟨rfl, rfl⟩)
            | (go_at_call 59; with_reducible first | (refine C1.out.mono ?_; rintro e w1 ⟨rfl, rfl⟩) | (refine C2.out.mono ?_; rintro e w1 ⟨rfl, rfl⟩)))
          go_roundw
          case rel => exact ⟨k + 1, l, by omega, by go_num, HO, HB, HF2, by omega⟩
          case measure => simp [intOf]; omega
        · have HF2 := Lib.hid (HF.out.trans (by rw [if_neg hin, if_neg hix] : _ = plainF (c.drop (k + 1)) (l ++ [x])))
          rw [decide_eq_false hix] at C2
          clear hin hix
          go_wp2_with (first
            | (go_at_call 58; with_reducible refine (Hof.out _).mono ?_; rintro e w1 ⟨rfl, rfl⟩)
            | (go_at_call 60; with_reducible refine (not_any x _ (by omega)).mono ?_; rintro e w1 ⟨rfl, rfl⟩)
            | (go_at_call 59; with_reducible first | (refine C1.out.mono ?_; rintro e w1 ⟨rfl, rfl⟩) | (refine C2.out.mono ?_; rintro e w1 ⟨rfl, rfl⟩))
            | (at_builtin; refine wpList_pushG rfl _ _ _ rfl eLit (v := .slice Al l.length cl) rfl (HO.out.kp fun _ _ => kp_new (below_alloc _ _) _) w1.heap.size (.int .i64 (x : Int)) rfl (one_new w1 _ _) rfl (by simp; omega) (by simp; omega) ?_; intro v' w5 hown hg hn; obtain ⟨A', c', rfl⟩ := hown.shape; (have HO5 := Lib.hid hown; have HB5 := Lib.hid (((HB.out.alloc hsz _).grown hg (by simp; omega)) (fun g hg => (HO.out.lt g hg).1)); clear hown hg hn)))
          go_roundw
          case rel => exact ⟨k + 1, l ++ [x], by omega, by go_num, Lib.hid (by have := HO5.out; simpa using this), HB5, HF2, by simp; omega⟩
          case measure => simp [intOf]; omega
    · obtain rfl : k = c.length := by omega
      have HF := HR2.out
      rw [List.drop_length, plainF] at HF
      go_wp2
      go_ret2
      refine ⟨?_, HB.out⟩
      rw [HF]
      exact ⟨_, rfl, HO.out⟩
theorem plain_none (cv : Value) (c : List Int) (w : World) {B : Nat} (hB : B ≤ w.heap.size) (hs : RInts w (Lt B) cv c) (hl : c.length ≤ 1000000) (hn : ∀ n ∈ c, n.natAbs ≤ 100000000) (hp : plainF c [] = none) :
    Calls Try.prog 47 #[cv] w fun e w' => e = .returned (.tuple #[.slice none 0 0, .bool false]) ∧ Below w.heap.size w w' := by
  have h := plain_any cv c w hB hs hl hn
  rw [hp] at h
  exact h
theorem plain_some (cv : Value) (c : List Int) (w : World) {B : Nat} (hB : B ≤ w.heap.size) (hs : RInts w (Lt B) cv c) (hl : c.length ≤ 1000000) (hn : ∀ n ∈ c, n.natAbs ≤ 100000000) {l : List Nat} (hp : plainF c [] = some l) :
    Calls Try.prog 47 #[cv] w fun e w' => ∃ A cap, e = .returned (.tuple #[.slice A l.length cap, .bool true]) ∧ OwnG w' w.heap.size 94 (.slice A l.length cap) (iN l) ∧ Below w.heap.size w w' := by
  have h := plain_any cv c w hB hs hl hn
  rw [hp] at h
  refine h.mono ?_
  rintro e w' ⟨⟨v, rfl, h1⟩, h2⟩
  obtain ⟨A, cap, rfl⟩ := h1.shape
  rw [List.length_map] at h1 ⊢
  exact ⟨A, cap, rfl, h1, h2⟩
end Go.Proofs.Ytcebafeaikipmaa.S15

namespace Go.Proofs.Ytcebafeaikipmaa.S15
open Go.RowKit

/-- the rows have their lengths -/
structure Shp (s : St) : Prop where
  va : s.value.length = 2 * (s.vars + 1)
  wt : s.watch.length = 2 * (s.vars + 1)
  le : s.level.length = s.vars + 1
  re : s.reason.length = s.vars + 1
  ph : s.phase.length = s.vars + 1
  ac : s.act.length = s.vars + 1
  se : s.seen.length = s.vars + 1
  sm : s.vars ≤ 2000
/-- clauses go by numbers that there are -/
structure Ids (s : St) : Prop where
  cs : ∀ c ∈ s.clauses, c < s.cls.length
  ln : ∀ c ∈ s.learned, c < s.cls.length
  wr : ∀ i, ∀ c ∈ s.watch.getD i [], c < s.cls.length
  re : ∀ c, some c ∈ s.reason → c < s.cls.length
def okL (n x : Nat) : Prop := 2 ≤ x ∧ x < 2 * (n + 1)
theorem okL_nt {n x : Nat} (h : okL n x) : okL n (nt x) := by unfold okL nt at *; split <;> omega
theorem okL_ofI {n : Nat} {z : Int} (h0 : z ≠ 0) (h : z.natAbs ≤ n) : okL n (ofI z) := by unfold okL ofI; split <;> omega
/-- each clause has two literals at least, and none but such -/
def Lits (s : St) : Prop := ∀ c, c < s.cls.length → 2 ≤ (s.cl c).lits.length ∧ ∀ x ∈ (s.cl c).lits, okL s.vars x
section
variable {w w' : World} {B S : Nat} {ad : List Nat} {vl : Rl → Value} {s s' : St}
theorem pC_app (ad : List Nat) (a c : Nat) (h : c < ad.length) : pC (ad ++ [a]) c = pC ad c := by
  unfold pC
  rw [List.getD_eq_getElem?_getD, List.getElem?_append_left h, ← List.getD_eq_getElem?_getD]
theorem cont_newC (hi : Ids s) (hl : ad.length = s.cls.length) (l : List Nat) (u : Int) (a : Nat) (v : Value) (r : Rl) (hr : r ≠ .li s.cls.length) : cont (newC s l u) (ad ++ [a]) (updV vl (.li s.cls.length) v) r = cont s ad vl r := by
  cases r with
  | cs => exact List.map_congr_left fun c hc => pC_app ad a c (by rw [hl]; exact hi.cs c hc)
  | ln => exact List.map_congr_left fun c hc => pC_app ad a c (by rw [hl]; exact hi.ln c hc)
  | wr i => exact List.map_congr_left fun c hc => pC_app ad a c (by rw [hl]; exact hi.wr i c hc)
  | re =>
    refine List.map_congr_left fun c hc => ?_
    cases c with
    | none => rfl
    | some c =>
      have := pC_app ad a c (by rw [hl]; exact hi.re c hc)
      unfold pC at this
      unfold oC
      simpa using this
  | wt => simp [cont, newC, updV]
  | pr => simp [cont, newC, updV]
  | li c =>
    have hne : c ≠ s.cls.length := fun e => hr (by rw [e])
    unfold cont St.cl newC
    simp only [List.getD_eq_getElem?_getD]
    rcases Nat.lt_or_ge c s.cls.length with h | h
    · rw [List.getElem?_append_left h]
    · rw [List.getElem?_eq_none (by simp; omega), List.getElem?_eq_none (by omega)]
  | _ => rfl
theorem cl_newC (l : List Nat) (u : Int) : (newC s l u).cl s.cls.length = ⟨l, u, false⟩ := by unfold St.cl newC; simp
theorem cl_newC_lt (l : List Nat) (u : Int) {c : Nat} (h : c < s.cls.length) : (newC s l u).cl c = s.cl c := by
  unfold St.cl newC
  simp only [List.getD_eq_getElem?_getD]
  rw [List.getElem?_append_left h]
/-- a clause is made of a row of literals that stands apart -/
theorem SAt.addC (h : SAt w B S ad vl s) (hi : Ids s) (l : List Nat) (u : Int) {v : Value} (hown : OwnG w B 94 v (iN l)) (hfr : ∀ g, v.ownBlock = some g → ¬ FP S ad vl g) :
    SAt (w.alloc (.cells #[v, .int .i64 u, .bool false] 98)) B S (ad ++ [w.heap.size]) (updV vl (.li s.cls.length) v) (newC s l u) := by
  have hb : Below w.heap.size w (w.alloc (.cells #[v, .int .i64 u, .bool false] 98)) := below_alloc _ _
  have hcl : (newC s l u).cls.length = s.cls.length + 1 := by simp [newC]
  have hga : ∀ c, c < s.cls.length → (ad ++ [w.heap.size]).getD c 0 = ad.getD c 0 := fun c hc => by
    rw [List.getD_eq_getElem?_getD, List.getElem?_append_left (by rw [h.adl]; exact hc), ← List.getD_eq_getElem?_getD]
  have hgn : (ad ++ [w.heap.size]).getD s.cls.length 0 = w.heap.size := by
    rw [List.getD_eq_getElem?_getD, List.getElem?_append_right (by rw [h.adl]; omega), h.adl]; simp
  refine ⟨fun r => ?_, ?_, ?_, fun c hc => ?_, h.loS, fun c hc => ?_, fun c d hc hd => ?_, by simp [newC, h.adl]⟩
  · by_cases e : r = .li s.cls.length
    · subst e
      rw [updV_same]
      have e2 : cont (newC s l u) (ad ++ [w.heap.size]) (updV vl (.li s.cls.length) v) (.li s.cls.length) = iN l := by
        show iN ((newC s l u).cl s.cls.length).lits = iN l
        rw [cl_newC]
      rw [e2]
      exact hown.kp fun _ _ => kp_new hb _
    · rw [cont_newC hi h.adl l u _ v r e, updV_ne _ _ e]
      exact (h.rows r).kp fun _ _ => kp_new hb _
  · intro r1 r2 g h1 h2
    by_cases e1 : r1 = .li s.cls.length
    · by_cases e2 : r2 = .li s.cls.length
      · rw [e1, e2]
      · subst e1
        rw [updV_same] at h1
        rw [updV_ne _ _ e2] at h2
        exact (hfr g h1 (.inr (.inl ⟨_, h2⟩))).elim
    · by_cases e2 : r2 = .li s.cls.length
      · subst e2
        rw [updV_same] at h2
        rw [updV_ne _ _ e1] at h1
        exact (hfr g h2 (.inr (.inl ⟨_, h1⟩))).elim
      · rw [updV_ne _ _ e1] at h1
        rw [updV_ne _ _ e2] at h2
        exact h.apart _ _ _ h1 h2
  · exact (kp_new hb _).at_ h.hS
  · rcases Nat.lt_or_ge c s.cls.length with hlt | hge
    · rw [hga c hlt]
      unfold fieldsC
      rw [cl_newC_lt l u hlt, updV_ne _ _ (by simp; omega)]
      exact (kp_new hb _).at_ (h.cl c hlt)
    · obtain rfl : c = s.cls.length := by omega
      rw [hgn]
      unfold fieldsC
      rw [cl_newC, updV_same]
      exact heap_alloc_new w _
  · rcases Nat.lt_or_ge c s.cls.length with hlt | hge
    · rw [hga c hlt]; exact h.loC c hlt
    · obtain rfl : c = s.cls.length := by omega
      rw [hgn]; exact h.size
  · have key : ∀ e, e < s.cls.length → (ad ++ [w.heap.size]).getD e 0 < w.heap.size := fun e he => by
      rw [hga e he]; exact (Array.getElem?_eq_some_iff.1 (h.cl e he)).1
    intro heq
    rcases Nat.lt_or_ge c s.cls.length with hlt | hge
    · rcases Nat.lt_or_ge d s.cls.length with hlt2 | hge2
      · rw [hga c hlt, hga d hlt2] at heq
        exact h.inj c d hlt hlt2 heq
      · obtain rfl : d = s.cls.length := by omega
        have := key c hlt
        rw [hgn] at heq; omega
    · obtain rfl : c = s.cls.length := by omega
      rcases Nat.lt_or_ge d s.cls.length with hlt2 | hge2
      · have := key d hlt2
        rw [hgn] at heq; omega
      · omega
theorem SAt.stpC (h : SAt w B S ad vl s) {w0 : World} {vl0 : Rl → Value} {ad0 : List Nat} (h0 : Stp w0 B S ad0 vl0 w ad vl) (o : Obj) (n : Nat) {v : Value} (hnew : ∀ g, v.ownBlock = some g → w0.heap.size ≤ g) :
    Stp w0 B S ad0 vl0 (w.alloc o) (ad ++ [w.heap.size]) (updV vl (.li n) v) := by
  refine ⟨h0.below.trans ((below_alloc w o).mono h.size), fun k hk hn => (Below.heap_alloc w o k (Nat.lt_of_lt_of_le hk h0.below.size)).trans (h0.ch k hk hn), ?_⟩
  rintro k (e | ⟨r, hr⟩ | e)
  · exact h0.fp k (.inl e)
  · by_cases e : r = .li n
    · subst e
      rw [updV_same] at hr
      exact .inr (hnew k hr)
    · rw [updV_ne _ _ e] at hr
      exact h0.fp k (.inr (.inl ⟨_, hr⟩))
  · rcases List.mem_append.1 e with e | e
    · exact h0.fp k (.inr (.inr e))
    · rw [List.mem_singleton] at e
      exact .inr (by rw [e]; exact h0.below.size)
end
end Go.Proofs.Ytcebafeaikipmaa.S15

namespace Go.Proofs.Ytcebafeaikipmaa.S15

/-- the same lengths, the same number of variables -/
def SameL (s t : St) : Prop := t.vars = s.vars ∧ t.value.length = s.value.length ∧ t.watch.length = s.watch.length ∧ t.level.length = s.level.length ∧ t.reason.length = s.reason.length ∧ t.phase.length = s.phase.length ∧ t.act.length = s.act.length ∧ t.seen.length = s.seen.length
theorem SameL.refl (s : St) : SameL s s := ⟨rfl, rfl, rfl, rfl, rfl, rfl, rfl, rfl⟩
theorem SameL.trans {a b c : St} (h : SameL a b) (k : SameL b c) : SameL a c :=
  ⟨k.1.trans h.1, k.2.1.trans h.2.1, k.2.2.1.trans h.2.2.1, k.2.2.2.1.trans h.2.2.2.1, k.2.2.2.2.1.trans h.2.2.2.2.1, k.2.2.2.2.2.1.trans h.2.2.2.2.2.1, k.2.2.2.2.2.2.1.trans h.2.2.2.2.2.2.1, k.2.2.2.2.2.2.2.trans h.2.2.2.2.2.2.2⟩
theorem SameL.shp {s t : St} (h : SameL s t) (hp : Shp s) : Shp t := by
  obtain ⟨h1, h2, h3, h4, h5, h6, h7, h8⟩ := h
  exact ⟨by rw [h2, h1, hp.va], by rw [h3, h1, hp.wt], by rw [h4, h1, hp.le], by rw [h5, h1, hp.re], by rw [h6, h1, hp.ph], by rw [h7, h1, hp.ac], by rw [h8, h1, hp.se], by rw [h1]; exact hp.sm⟩
theorem same_set (s : St) (x : Nat) (b : Option Nat) : SameL s (setS s x b) := by unfold SameL setS; simp
theorem same_pushW (s : St) (x c : Nat) : SameL s (pushW s x c) := by unfold SameL pushW; simp
theorem same_attach (s : St) (c : Nat) : SameL s (attachS s c) := (same_pushW _ _ _).trans (same_pushW _ _ _)
theorem same_setL (s : St) (c : Nat) (l : List Nat) : SameL s (setL s c l) := by unfold SameL setL; simp
theorem same_undo (s : St) (x : Nat) : SameL s (undoS s x) := by unfold SameL undoS; simp
theorem same_undos (l : List Nat) : ∀ s : St, SameL s (l.foldl undoS s) := by
  induction l with
  | nil => exact fun s => SameL.refl s
  | cons x l ih => exact fun s => (same_undo s x).trans (ih _)
theorem same_back (s : St) (lv : Nat) : SameL s (backS s lv) := by
  unfold backS
  split
  · exact SameL.refl s
  · exact same_undos _ s
theorem same_meet (s : St) (v : Nat) : SameL s (meetS s v) := by unfold SameL meetS; split <;> simp
theorem same_look (s : St) (c x : Nat) : SameL s (lookS s c x).1 := by
  unfold lookS
  simp only
  split
  · exact same_setL _ _ _
  · split
    · exact ((same_setL _ _ _).trans (same_setL _ _ _)).trans (same_pushW _ _ _)
    · split
      · exact same_setL _ _ _
      · exact (same_setL _ _ _).trans (same_set _ _ _)
theorem same_inner (x : Nat) (l : List Nat) : ∀ (s : St) (kept : List Nat) (bad : Option Nat), SameL s (innerS x l s kept bad).1 := by
  induction l with
  | nil => exact fun s _ _ => SameL.refl s
  | cons c l ih =>
    intro s kept bad
    unfold innerS
    split
    · exact ih _ _ _
    · cases bad with
      | some b => exact ih _ _ _
      | none => exact (same_look s c x).trans (ih _ _ _)
end Go.Proofs.Ytcebafeaikipmaa.S15

namespace Go.Proofs.Ytcebafeaikipmaa.S15
open Go.RowKit

theorem plainF_ok (n : Nat) : ∀ (c : List Int) (l r : List Nat), (∀ z ∈ c, z ≠ 0 ∧ z.natAbs ≤ n) → (∀ x ∈ l, okL n x) → plainF c l = some r → (∀ x ∈ r, okL n x) ∧ r.length ≤ l.length + c.length := by
  intro c
  induction c with
  | nil => intro l r _ hl h; cases h; exact ⟨hl, by simp⟩
  | cons z c ih =>
    intro l r hc hl h
    have hz := hc z List.mem_cons_self
    have hc' : ∀ z ∈ c, z ≠ 0 ∧ z.natAbs ≤ n := fun y hy => hc y (List.mem_cons_of_mem _ hy)
    unfold plainF at h
    split at h
    · cases h
    · split at h
      · have := ih l r hc' hl h
        exact ⟨this.1, by have := this.2; simp; omega⟩
      · have := ih (l ++ [ofI z]) r hc' (fun x hx => by
          rcases List.mem_append.1 hx with hx | hx
          · exact hl x hx
          · rw [List.mem_singleton] at hx; subst hx; exact okL_ofI hz.1 hz.2) h
        refine ⟨this.1, ?_⟩
        have := this.2
        simp at this ⊢
        omega
theorem own_lo {w : World} {B : Nat} {t : TypeId} {v : Value} {xs : List Value} (h : OwnG w B t v xs) {b : Nat} (hb : b ≤ B) : OwnG w b t v xs := by
  rcases h with h | ⟨g, cap, cur, h1, h2, h3⟩
  · exact .inl h
  · exact .inr ⟨g, cap, cur, h1, Nat.le_trans hb h2, h3⟩
set_option maxHeartbeats 4000000 in
theorem add_any {w : World} {B S : Nat} {ad : List Nat} {vl : Rl → Value} {s : St} (h : SAt w B S ad vl s) (hp : Shp s) (hi : Ids s) (cv : Value) (c : List Int) (hs : RInts w (Lt B) cv c) (hl : c.length ≤ 1000000) (hc : ∀ z ∈ c, z ≠ 0 ∧ z.natAbs ≤ s.vars) (ht : s.trail.length ≤ 10000) (M : Nat) (hM : ∀ i, (s.watch.getD i []).length ≤ M) (hMl : M ≤ 1000000) (hcn : s.clauses.length ≤ 1000000) :
    Calls Try.prog 43 #[.pointer (some ⟨S, 0, none⟩), cv] w fun e w' => e = .returned (.bool (addS s c).2) ∧ ∃ ad' vl', SAt w' B S ad' vl' (addS s c).1 ∧ Stp w B S ad vl w' ad' vl' := by
  have hsm := hp.sm
  have hnb : ∀ z ∈ c, z.natAbs ≤ 100000000 := fun z hz => by have := (hc z hz).2; omega
  obtain ⟨R, hR⟩ : ∃ R, R = addS s c := ⟨_, rfl⟩
  rw [← hR]
  have H := Lib.hid h
  have Hp := Lib.hid hp
  have Hi := Lib.hid hi
  unfold addS at hR
  cases hpl : plainF c [] with
  | none =>
    rw [hpl] at hR
    have HP := Lib.hid (plain_none cv c w h.size hs hl hnb hpl)
    have HR := Lib.hid hR
    clear h hp hi hs hc hnb hM hR hpl
    go_enter Try.func43, Try.ntmps43
    go_wp2_with (go_at_call 47; with_reducible refine HP.out.mono ?_; rintro e w1 ⟨rfl, h2⟩)
    go_ret
    refine ⟨by rw [HR.out]; rfl, ad, vl, ?_, H.out.stpNew h2⟩
    rw [HR.out]
    exact H.out.new h2
  | some l =>
    obtain ⟨hok, hll⟩ := plainF_ok s.vars c [] l hc (by simp) hpl
    rw [hpl] at hR
    have HP := Lib.hid (plain_some cv c w h.size hs hl hnb hpl)
    cases l with
    | nil =>
      have HR := Lib.hid hR
      clear h hp hi hs hc hnb hM hR hpl
      go_enter Try.func43, Try.ntmps43
      go_wp2_with (go_at_call 47; with_reducible refine HP.out.mono ?_; rintro e w1 ⟨Av, cv2, rfl, h1, h2⟩)
      go_ret
      refine ⟨by rw [HR.out]; rfl, ad, vl, ?_, H.out.stpNew h2⟩
      rw [HR.out]
      exact H.out.new h2
    | cons x l =>
      cases l with
      | nil =>
        have hxo := hok x (by simp)
        have hx1 : x < s.value.length := by rw [hp.va]; exact hxo.2
        have hx2 : nt x < s.value.length := by rw [hp.va]; exact (okL_nt hxo).2
        have hx3 : x / 2 < s.level.length := by rw [hp.le]; have := hxo.2; omega
        have hx4 : x / 2 < s.reason.length := by rw [hp.re]; have := hxo.2; omega
        have hx5 : s.value.length ≤ 100000 := by rw [hp.va]; omega
        replace hR : R = (if s.val x = 0 then setS s x none else s, (if s.val x = 0 then setS s x none else s).val x == 1) := hR
        have hvx : s.val x = s.value[x] := by simp [St.val, hx1]
        obtain ⟨gv, cc, hva, -, hgv, -, -⟩ := (h.rows .va).form (by simp [cont]; omega)
        simp only [cont, List.length_map] at hva
        have ed := h.rows .va
        rw [hva] at ed
        obtain ⟨y, hy⟩ : ∃ y, y = s.value[x] := ⟨_, rfl⟩
        have hd1 : w.cell? ⟨gv, x, none⟩ = some (.int .u8 (y : Int)) := ed.cell (by simp [cont, hx1, hy])
        have hc4 := h.cellS (k := 4) (v := vl .va) rfl
        rw [hva] at hc4
        have hsz := h.lt
        rw [hvx, ← hy] at hR
        have HR := Lib.hid hR
        have Hva := Lib.hid hva
        have Hfp := Lib.hid (fun k => @SAt.fpLo w B S ad vl s h k)
        clear h hi hs hc hnb hM hR hpl hok hll hvx ed hva
        by_cases hy0 : y = 0
        · replace hd1 : w.cell? ⟨gv, x, none⟩ = some (.int .u8 0) := by rw [hd1, hy0]; rfl
          have HR2 := Lib.hid (show R = (setS s x none, true) by
            rw [HR.out, if_pos hy0]
            have e : (setS s x none).val x = 1 := by
              unfold St.val setS
              simp only [List.getD_eq_getElem?_getD]
              rw [List.getElem?_set_ne (nt_ne x), List.getElem?_set_self hx1]
              rfl
            rw [e]
            rfl)
          clear hy0 hy HR
          go_enter Try.func43, Try.ntmps43
          go_wp2_with (go_at_call 47; with_reducible refine HP.out.mono ?_; rintro e w1 ⟨Av, cv2, rfl, h1, h2⟩; obtain ⟨gA, cA, e1, hgA1, hgA2, -, -⟩ := h1.form (by simp); rw [e1] at h1 ⊢; (have d0 : w1.cell? ⟨gA, 0, none⟩ = some (.int .i64 (x : Int)) := h1.cell (by simp); have c4 := (h2.cell (p := ⟨S, 4, none⟩) hsz).trans hc4; have d1 := (h2.cell (p := ⟨gv, x, none⟩) hgv).trans hd1; have H1 := Lib.hid (H.out.new h2); have HB1 := Lib.hid h2; have HA1 := Lib.hid h1; clear h2 h1 hc4 hd1))
          go_quiet (fail)
          obtain ⟨w2, hw2⟩ : ∃ w2, w2 = w1.drewN nq := ⟨_, rfl⟩
          rw [← hw2]
          have H2 := Lib.hid (show SAt w2 B S ad vl s by rw [hw2]; exact H1.out.new (below_drewN (Below.refl _ _) _))
          have P2 := Lib.hid (show Stp w B S ad vl w2 ad vl by rw [hw2]; exact H.out.stpNew (below_drewN HB1.out _))
          replace d0 : w2.cell? ⟨gA, 0, none⟩ = some (.int .i64 (x : Int)) := by rw [hw2]; exact d0
          have hgA3 : gA < w2.heap.size := by rw [hw2]; exact hgA2
          clear hw2 c4 d1
          have HS := Lib.hid (set_any H2.out x none hx1 hx2 hx3 hx4 hx5 (by omega))
          have hno : oC ad none = .pointer none := rfl
          rw [hno] at HS
          go_wp2_with (go_at_call 48; with_reducible refine HS.out.mono ?_; rintro e w3 ⟨rfl, v3, h3, p3⟩; (have H3 := Lib.hid h3; have P3 := Lib.hid (P2.out.trans p3); have d03 := World.cell?_of_block (a := ⟨gA, 0, none⟩) (p3.ch gA hgA3 (fun e => by have := (Hfp.out gA e).2; omega)); rw [d0] at d03; have c43 := h3.cellS (k := 4) (v := vl .va) rfl; rw [Hva.out] at c43; have e3 := h3.rows .va; rw [updV_ne _ _ (by simp), Hva.out] at e3; have d13 : w3.cell? ⟨gv, x, none⟩ = some (.int .u8 1) := e3.cell (by simp [cont, setS, hx1, nt_ne x]); clear h3 p3 e3 d0))
          go_quiet (fail)
          go_wp2
          go_ret
          refine ⟨by rw [HR2.out]; rfl, ad, _, ?_, P3.out.trans (H3.out.stpNew (below_drewN (Below.refl _ _) _))⟩
          rw [HR2.out]
          exact H3.out.new (below_drewN (Below.refl _ _) _)
        · have HR2 := Lib.hid (show R = (s, y == 1) by
            rw [HR.out, if_neg hy0]
            have e : s.val x = y := by simp [St.val, hx1, hy]
            rw [e])
          have z0 : (((y : Nat) : Int) == 0) = false := beq_eq_false_iff_ne.2 (by omega)
          clear hy0 hy HR
          go_enter Try.func43, Try.ntmps43
          go_wp2_with (go_at_call 47; with_reducible refine HP.out.mono ?_; rintro e w1 ⟨Av, cv2, rfl, h1, h2⟩; obtain ⟨gA, cA, e1, hgA1, hgA2, -, -⟩ := h1.form (by simp); rw [e1] at h1 ⊢; (have d0 : w1.cell? ⟨gA, 0, none⟩ = some (.int .i64 (x : Int)) := h1.cell (by simp); have c4 := (h2.cell (p := ⟨S, 4, none⟩) hsz).trans hc4; have d1 := (h2.cell (p := ⟨gv, x, none⟩) hgv).trans hd1; have H1 := Lib.hid (H.out.new h2); have HB1 := Lib.hid h2; have HA1 := Lib.hid h1; clear h2 h1 hc4 hd1))
          go_quiet (fail)
          go_wp2
          go_quiet (fail)
          go_wp2
          go_ret
          have hy1 : (((y : Nat) : Int) == 1) = (y == 1) := by rw [Bool.eq_iff_iff]; simp; omega
          rw [HR2.out]
          exact ⟨congrArg (fun b => Ending.returned (.bool b)) hy1, ad, vl, H1.out.new (below_drewN (below_drewN (Below.refl _ _) _) _), H.out.stpNew (below_drewN (below_drewN HB1.out _) _)⟩
      | cons y l =>
        replace hR : R = (attachS { newC s (x :: y :: l) (-1) with clauses := s.clauses ++ [s.cls.length] } s.cls.length, true) := hR
        obtain ⟨L, hL⟩ : ∃ L, L = x :: y :: l := ⟨_, rfl⟩
        have hL2 : 2 ≤ L.length := by rw [hL]; simp
        rw [← hL] at HP hR hok hll
        have HR := Lib.hid hR
        have Hok := Lib.hid hok
        have HM := Lib.hid hM
        have hlle : L.length ≤ 1000000 := by simp at hll; omega
        have z0 : (((L.length : Nat) : Int) == 0) = false := beq_eq_false_iff_ne.2 (by omega)
        have z1 : (((L.length : Nat) : Int) == 1) = false := beq_eq_false_iff_ne.2 (by omega)
        clear h hp hi hs hc hnb hM hR hpl hok hL hll
        go_enter Try.func43, Try.ntmps43
        go_upto_region 11 with (go_at_call 47; with_reducible refine HP.out.mono ?_; rintro e w1 ⟨Av, cv2, rfl, h1, h2⟩; (have H1 := Lib.hid (H.out.new h2); have HO1 := Lib.hid h1; have HB1 := Lib.hid h2; clear h1 h2))
        obtain ⟨w2, hw2⟩ : ∃ w2, w2 = w1.alloc (.cells #[.slice Av L.length cv2, .int .i64 (-1), .bool false] 98) := ⟨_, rfl⟩
        have hlo : ∀ g, (Value.slice Av L.length cv2).ownBlock = some g → w.heap.size ≤ g := fun g hg => (HO1.out.lt g hg).1
        have h2 : SAt w2 B S (ad ++ [w1.heap.size]) (updV vl (.li s.cls.length) (.slice Av L.length cv2)) (newC s L (-1)) := by
          rw [hw2]
          exact H1.out.addC Hi.out L (-1) (own_lo HO1.out H.out.size) fun g hg e => by have := hlo g hg; have := (H.out.fpLo e).2; omega
        have p2 : Stp w B S ad vl w2 (ad ++ [w1.heap.size]) (updV vl (.li s.cls.length) (.slice Av L.length cv2)) := by
          rw [hw2]
          exact H1.out.stpC (H.out.stpNew HB1.out) _ _ hlo
        have H2 := Lib.hid h2
        have P2 := Lib.hid p2
        rw [← hw2]
        obtain ⟨q, hq⟩ : ∃ q, q = w1.heap.size := ⟨_, rfl⟩
        rw [← hq] at H2 P2 ⊢
        have hga : pC (ad ++ [q]) s.cls.length = .pointer (some ⟨q, 0, none⟩) := by
          unfold pC
          rw [List.getD_eq_getElem?_getD, List.getElem?_append_right (by rw [H.out.adl]; omega), H.out.adl]; simp
        have Hga := Lib.hid hga
        clear h2 p2 hw2 hq hga hlo
        obtain ⟨vl2, hvl2⟩ : ∃ vl2, vl2 = updV vl (.li s.cls.length) (.slice Av L.length cv2) := ⟨_, rfl⟩
        rw [← hvl2] at H2 P2
        clear hvl2
        obtain ⟨Ac, cc, hcs⟩ := (H2.out.rows .cs).shape
        have hcl : (cont (newC s L (-1)) (ad ++ [q]) vl2 .cs).length = s.clauses.length := by simp [cont, newC]
        rw [hcl] at hcs
        have c1 := H2.out.cellS (k := 1) (v := vl2 .cs) rfl
        rw [hcs] at c1
        have e1 := H2.out.rows .cs
        rw [hcs] at e1
        have HO := Lib.hid (show OwnG w2 B 96 (.slice Ac s.clauses.length cc) (s.clauses.map (pC (ad ++ [q]))) from e1)
        have Hcs := Lib.hid hcs
        have Hcl := Lib.hid hcl
        clear hcs e1 hcl
        go_wp2_with (first
          | (at_builtin; refine wpList_pushG rfl _ _ _ rfl eCls (v := .slice Ac s.clauses.length cc) rfl (HO.out.kp fun _ _ => kp_new (below_alloc _ _) _) w2.heap.size (.pointer (some ⟨q, 0, none⟩)) rfl (one_new w2 _ _) rfl (by simp; omega) (by have := H2.out.size; simp; omega) ?_; intro v' w5 hown hg hn; rw [← Hcs.out] at hg hn; rw [← Hga.out] at hown; obtain ⟨A', c', rfl⟩ := hown.shape
             obtain ⟨q1, q2, q3⟩ := H2.out.pushSl .cs 1 (below_alloc _ _) { newC s L (-1) with clauses := s.clauses ++ [s.cls.length] } hown hg hn (by simp [cont, newC]) (fun r hr => by cases r <;> first | rfl | exact absurd rfl hr | (simp [cont, newC, updV]; done)) rfl rfl (fun _ _ => rfl)
             rw [List.length_append, List.length_map, List.length_singleton] at q1 q2
             (have j1 : w5.cell? ⟨S, 1, none⟩ = some (vl2 .cs) := cell_of_row w5 S 1 _ _ (0, 0) q3; have jf := frozen_of_row w5 S 1 _ _ q3; have H7 := Lib.hid q1; have P7 := Lib.hid (P2.out.trans q2); clear q1 q2 q3 hown hg hn))
          )
        (have hcx : (St.cl { newC s L (-1) with clauses := s.clauses ++ [s.cls.length] } s.cls.length).lits = L := congrArg Cl.lits (cl_newC L (-1))
         have HA := attach_any H7.out s.cls.length (by simp [newC]) (by rw [hcx]; exact hL2) (by rw [hcx]; intro y hy; have := (Hok.out y hy).2; have := Hp.out.wt; show y < s.watch.length; omega) M HM.out (by omega)
         rw [Hga.out] at HA
         with_reducible refine HA.mono ?_
         rintro e w6 ⟨rfl, vl6, h6, p6⟩
         (have H8 := Lib.hid h6; have P8 := Lib.hid (P7.out.trans p6); clear h6 p6 HA hcx))
        go_wp2
        go_ret
        refine ⟨by rw [HR.out]; rfl, ad ++ [q], vl6, ?_, P8.out⟩
        rw [HR.out]
        exact H8.out
end Go.Proofs.Ytcebafeaikipmaa.S15

namespace Go.Proofs.Ytcebafeaikipmaa.S15
open Go.RowKit

section
variable {w w' : World} {B S : Nat} {ad : List Nat} {vl : Rl → Value} {s s' : St}
theorem cl_setL (s : St) {c : Nat} (hc : c < s.cls.length) (l : List Nat) : (setL s c l).cl c = { s.cl c with lits := l } := by
  unfold setL
  show ((s.cls.set c _).getD c _) = _
  rw [List.getD_eq_getElem?_getD, List.getElem?_set_self hc]
  rfl
theorem cl_setL_ne (s : St) {c d : Nat} (h : d ≠ c) (l : List Nat) : (setL s c l).cl d = s.cl d := by
  unfold setL
  show ((s.cls.set c _).getD d _) = s.cls.getD d _
  rw [List.getD_eq_getElem?_getD, List.getElem?_set_ne (fun e => h e.symm), ← List.getD_eq_getElem?_getD]
theorem cont_setL (s : St) (c : Nat) (l : List Nat) (r : Rl) (hr : r ≠ .li c) : cont (setL s c l) ad vl r = cont s ad vl r := by
  cases r with
  | li d =>
    show iN ((setL s c l).cl d).lits = iN (s.cl d).lits
    rw [cl_setL_ne s (fun e => hr (by rw [e])) l]
  | _ => rfl
theorem setL_setL (s : St) (c : Nat) (l m : List Nat) : setL (setL s c l) c m = setL s c m := by
  by_cases hc : c < s.cls.length
  · have := cl_setL s hc l
    unfold setL at this ⊢
    rw [this]
    simp
  · have h1 : s.cls.length ≤ c := Nat.le_of_not_lt hc
    unfold setL
    simp [List.set_eq_of_length_le, h1]
theorem setL_self (s : St) (c : Nat) : setL s c (s.cl c).lits = s := by
  unfold setL
  by_cases hc : c < s.cls.length
  · have e : ({ s.cl c with lits := (s.cl c).lits } : Cl) = s.cls[c] := by
      unfold St.cl; simp [hc]
    rw [e, List.set_getElem_self]
  · rw [List.set_eq_of_length_le (Nat.le_of_not_lt hc)]
theorem len_setL (s : St) (c : Nat) (l : List Nat) : (setL s c l).cls.length = s.cls.length := by simp [setL]
theorem SAt.setLit (h : SAt w B S ad vl s) {c : Nat} (hc : c < s.cls.length) {g n cap : Nat} (hv : vl (.li c) = .slice (some ⟨g, 0, none⟩) n cap) (j y : Nat) :
    SAt (w.setCell ⟨g, j, none⟩ (.int .i64 (y : Int))) B S ad vl (setL s c ((s.cl c).lits.set j y)) := by
  refine h.setRow (.li c) hv j _ _ (fun r hr => cont_setL s c _ r hr) ?_ rfl (len_setL _ _ _) fun d hd => ?_
  · show iN ((setL s c _).cl c).lits = (iN (s.cl c).lits).set j _
    rw [cl_setL s hc]
    simp [List.map_set]
  · unfold fieldsC
    by_cases e : d = c
    · subst e; rw [cl_setL s hc]
    · rw [cl_setL_ne s e]
theorem SAt.swap (h : SAt w B S ad vl s) {c : Nat} (hc : c < s.cls.length) {g n cap : Nat} (hv : vl (.li c) = .slice (some ⟨g, 0, none⟩) n cap) (i j : Nat) {a b : Nat} (ha : (s.cl c).lits.getD i 0 = a) (hb : (s.cl c).lits.getD j 0 = b) :
    SAt ((w.setCell ⟨g, i, none⟩ (.int .i64 (b : Int))).setCell ⟨g, j, none⟩ (.int .i64 (a : Int))) B S ad vl (setL s c (swp (s.cl c).lits i j)) ∧
      Stp w B S ad vl ((w.setCell ⟨g, i, none⟩ (.int .i64 (b : Int))).setCell ⟨g, j, none⟩ (.int .i64 (a : Int))) ad vl := by
  have h1 := h.setLit hc hv i b
  have h2 := h1.setLit (c := c) (by rw [len_setL]; exact hc) hv j a
  rw [cl_setL s hc, setL_setL] at h2
  refine ⟨?_, (h.stpRow _ hv i _).trans (h1.stpRow _ hv j _)⟩
  unfold swp
  rw [ha, hb]
  exact h2
end
end Go.Proofs.Ytcebafeaikipmaa.S15
