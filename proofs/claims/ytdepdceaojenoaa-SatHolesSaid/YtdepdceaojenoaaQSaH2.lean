/- The law SatHoles, walked. -/
import Derived.Test.YtdepdceaojenoaaQSaH1
import Derived.Test.YtdepdceaojenoaaZo
import Derived.Test.YtdepdceaojenoaaZr
namespace Go.Proofs.Ytdepdceaojenoaa
open Go.RowKit

theorem arg_boolH {w : World} {v : Value} (h : Arg Try.prog w 4 v) : ∃ b : Bool, v = .bool b := by
  obtain ⟨H, enc, base, d, p, hw, hd, _⟩ := h
  exact WideShapes.okWide_bool Try.underlying4 hw
/-- rows that were listed one by one -/
def Pg (w : World) (B : Nat) (v : Value) (L : List (List Int)) : Prop :=
  ∃ xs : List Value, OwnG w B 26 v xs ∧ xs.length = L.length ∧ ∀ j u, xs[j]? = some u → OwnG w B 3 u (zV (L.getD j []))
theorem Pg.nil (w : World) (B : Nat) : Pg w B (.slice none 0 0) [] := ⟨[], OwnG.nil _ _ _, rfl, fun j u h => by simp at h⟩
theorem Pg.shape {w : World} {B : Nat} {v : Value} {L : List (List Int)} (h : Pg w B v L) : ∃ A c, v = .slice A L.length c := by
  obtain ⟨xs, h1, h2, -⟩ := h
  obtain ⟨A, c, e⟩ := h1.shape
  exact ⟨A, c, by rw [e, h2]⟩
theorem Pg.kp {w w' : World} {B : Nat} {v : Value} {L : List (List Int)} (h : Pg w B v L) (hk : ∀ g, B ≤ g → g < w.heap.size → Kp w w' g) : Pg w' B v L := by
  obtain ⟨xs, h1, h2, h3⟩ := h
  exact ⟨xs, h1.kp fun g hg => hk g (h1.lt g hg).1 (h1.lt g hg).2, h2, fun j u hu => (h3 j u hu).kp fun g hg => hk g ((h3 j u hu).lt g hg).1 ((h3 j u hu).lt g hg).2⟩
theorem Pg.push {w w5 : World} {B : Nat} {v v' u : Value} {xs : List Value} {L : List (List Int)} {d : List Int} {o : Obj} (h1 : OwnG w B 26 v xs) (h2 : xs.length = L.length)
    (h3 : ∀ j u, xs[j]? = some u → OwnG w B 3 u (zV (L.getD j []))) (hu : OwnG w B 3 u (zV d)) (hown : OwnG w5 B 26 v' (xs ++ [u])) (hg : (w.alloc o).grownBy w5 v.ownBlock) : Pg w5 B v' (L ++ [d]) := by
  have key : ∀ z l, OwnG w B 3 z l → OwnG w5 B 3 z l := fun z l hz => hz.kp fun g hgz ob hob => by
    have hne : some g ≠ v.ownBlock := fun e => by
      obtain ⟨c1, e1⟩ := hz.obj hgz
      obtain ⟨c2, e2⟩ := h1.obj e.symm
      rw [e1] at e2
      simp at e2
    have h5 : (w.alloc o).heap[g]? = some ob := heap_at_alloc hob
    rw [(ag_of_grown hg) g ⟨heap_lt h5, hne⟩]
    exact h5
  refine ⟨_, hown, by simp [h2], fun j z hz => ?_⟩
  rcases Nat.lt_or_ge j xs.length with k | k
  · rw [List.getElem?_append_left k] at hz
    have := key _ _ (h3 j z hz)
    rwa [List.getD_eq_getElem?_getD, List.getElem?_append_left (by omega), ← List.getD_eq_getElem?_getD]
  · have hj : j = xs.length := by have := (List.getElem?_eq_some_iff.1 hz).1; simp at this; omega
    subst hj
    rw [List.getElem?_append_right (Nat.le_refl _), Nat.sub_self] at hz
    simp at hz
    subst hz
    have := key _ _ hu
    rwa [List.getD_eq_getElem?_getD, List.getElem?_append_right (by omega), h2, Nat.sub_self]
theorem Pg.reads {w : World} {B : Nat} {v : Value} {L : List (List Int)} (h : Pg w B v L) : RIntss w (Lt w.heap.size) v L := by
  obtain ⟨xs, h1, h2, h3⟩ := h
  exact reads_own h1 h2.symm (fun g hg => (h1.lt g hg).2) fun k hk u hu => by
    have := h3 k u hu
    rw [List.getD_eq_getElem?_getD, List.getElem?_eq_getElem hk] at this
    exact ints_own this fun g hg => (this.lt g hg).2
/-- the question under way -/
structure HoA (W w : World) (Q : Nat) (nv : Value) (L : List (List Int)) : Prop where
  q : ∃ v, w.heap[Q]? = some (.cells #[nv, v] 24 (0, 0)) ∧ Pg w (Q + 1) v L
  b : Below Q W w
theorem HoA.keep {W w w' : World} {Q : Nat} {nv : Value} {L : List (List Int)} (h : HoA W w Q nv L) (hb : Below w.heap.size w w') : HoA W w' Q nv L := by
  obtain ⟨⟨v, h1, h2⟩, h3⟩ := h
  exact ⟨⟨v, (hb.block _ (heap_lt h1)).trans h1, h2.kp fun g _ _ => kp_new hb g⟩, h3.trans (hb.mono (Nat.le_of_lt (Nat.lt_of_le_of_lt (Nat.le_refl _) (heap_lt h1))))⟩
theorem HoA.push {W w w5 : World} {Q : Nat} {nv v v' u : Value} {xs : List Value} {L : List (List Int)} {d : List Int} {o : Obj} (hq : w5.heap[Q]? = some (.cells #[nv, v] 24 (0, 0))) (hQ : Q < w.heap.size) (hb : Below Q W w) (h1 : OwnG w (Q + 1) 26 v xs) (h2 : xs.length = L.length)
    (h3 : ∀ j u, xs[j]? = some u → OwnG w (Q + 1) 3 u (zV (L.getD j []))) (hu : OwnG w (Q + 1) 3 u (zV d)) (hown : OwnG w5 (Q + 1) 26 v' (xs ++ [u])) (hg : (w.alloc o).grownBy w5 v.ownBlock) : HoA W (w5.setCell ⟨Q, 1, none⟩ v') Q nv (L ++ [d]) := by
  refine ⟨⟨v', heap_setCell_same w5 _ 1 _ _ _ hq, (Pg.push h1 h2 h3 hu hown hg).kp fun g hg _ => kp_set w5 _ 1 _ (by omega)⟩, ?_⟩
  have h5 : Below Q W w5 := (hb.alloc (by omega) _).grown hg (by simp; omega) fun k hk => by have := (h1.lt k hk).1; omega
  exact h5.setCell (p := ⟨Q, 1, none⟩) (Nat.le_refl Q) _
theorem kind_eq {a : SAns} {cs : List (List Int)} {n f k : Nat} (hm : satMayN n cs = 0) (h : SolveR cs n 1048576 a) (hk : kindS (solveS n cs 1048576 f) = k) (h0 : k ≠ 0) : kindS (some a) = k := by
  obtain ⟨f1, f2, f3, f4⟩ := may_facts hm
  cases hs : solveS n cs 1048576 f with
  | none => rw [hs] at hk; exact absurd hk.symm h0
  | some a2 =>
    obtain rfl := h.eq f4 (by omega) f2 hs
    rw [← hk, hs]
theorem grown_q {w3 w5 : World} {v : Value} {x : Nat} {o : Obj} (hg : w3.grownBy w5 v.ownBlock) (hx : ∀ g, v.ownBlock = some g → g ≠ x) (ho : w3.heap[x]? = some o) : w5.heap[x]? = some o := by
  rw [(ag_of_grown hg) x ⟨heap_lt ho, fun e => hx x e.symm rfl⟩]; exact ho
theorem lit_own (w : World) (x y : Int) : OwnG (w.alloc (.cells #[.int .i64 x, .int .i64 y] 3)) w.heap.size 3 (.slice (some ⟨w.heap.size, 0, none⟩) 2 2) (zV [x, y]) :=
  .inr ⟨w.heap.size, 2, _, rfl, Nat.le_refl _, heap_new rfl, by simp, by simp, by unfold maxLen; omega, rfl⟩
set_option maxRecDepth 100000 in
set_option maxHeartbeats 8000000 in
theorem walk_SatHoles (W : World) (v0 v1 : Value) (a0 : Arg Try.prog W 3 v0) (a1 : Arg Try.prog W 4 v1) :
    Calls Try.prog 8 #[v0, v1] W fun e W' => e = .returned (.bool true) ∧ Below W.heap.size W W' := by
  obtain ⟨m, rfl, hm1, hm2⟩ := arg_int a0
  obtain ⟨full, rfl⟩ := arg_boolH a1
  clear a0 a1
  obtain ⟨n, hn⟩ : ∃ n : Nat, (n : Int) = max 1 (min m 4) := ⟨(max 1 (min m 4)).toNat, by omega⟩
  have hn1 : 1 ≤ n := by omega
  have hn4 : n ≤ 4 := by omega
  obtain ⟨bs, hbs⟩ : ∃ bs, bs = if full then n + 1 else n := ⟨_, rfl⟩
  have hbn : n ≤ bs := by rw [hbs]; split <;> omega
  have hb5 : bs ≤ 5 := by rw [hbs]; split <;> omega
  have Hmay := Lib.hid (pg_may n full hn1 hn4)
  have Hkind := Lib.hid (pg_kind n full hn1 hn4)
  rw [← hbs] at Hmay Hkind
  have Hbs := Lib.hid hbs
  obtain ⟨Q, hQ⟩ : ∃ Q, Q = W.heap.size := ⟨_, rfl⟩
  have HQ := Lib.hid hQ
  go_enter Try.func8, Try.ntmps8
  go_upto_region 2 with fail
  rw [show (if 1 < if 4 < m then 4 else m then if 4 < m then 4 else m else 1) = (n : Int) by split <;> split <;> omega]
  obtain ⟨mn, hmn⟩ : ∃ mn, mn = (if 4 < m then 4 else m) := ⟨_, rfl⟩
  rw [← hmn]
  clear hn hm1 hm2 hmn
  have hw1 : IntKind.i64.wrap ((n : Int) + 1) = ((n + 1 : Nat) : Int) := wrap_nat (by omega) (by omega)
  obtain ⟨p, hp⟩ : ∃ p, p = bs * n := ⟨_, rfl⟩
  have hp20 : p ≤ 20 := by rw [hp]; exact Nat.le_trans (Nat.mul_le_mul hb5 hn4) (Nat.le_refl _)
  have hwp : IntKind.i64.wrap ((bs : Int) * (n : Int)) = (p : Int) := by
    rw [show (bs : Int) * (n : Int) = (p : Int) by rw [hp]; push_cast; rfl]
    exact wrap_nat (x := (p : Int)) (by omega) (by omega)
  have Hp := Lib.hid hp
  clear hp
  go_upto_if 19 with fail
  go_cut [5] (fun v5 wx => v5 = .int .i64 (bs : Int) ∧ wx = W)
  case first =>
    cases full with
    | true =>
      obtain rfl : bs = n + 1 := by simpa using hbs
      clear hbs
      go_wp2
      go_meet
      exact ⟨rfl, rfl⟩
    | false =>
      obtain rfl : bs = n := by simpa using hbs
      clear hbs
      go_wp2
      go_meet
      exact ⟨rfl, rfl⟩
  case rest =>
    obtain ⟨rfl, hwc⟩ := hcut
    subst hwc
    clear hbs
    go_wp2_with fail
    rw [← hQ]
    obtain ⟨w1, hw1⟩ : ∃ w1, w1 = wc.alloc (.cells #[.int .i64 (p : Int), .slice none 0 0] 24) := ⟨_, rfl⟩
    have H1 := Lib.hid (show HoA wc w1 Q (.int .i64 (p : Int)) [] from ⟨⟨_, by rw [hw1]; exact heap_new hQ, Pg.nil _ _⟩, by rw [hw1, hQ]; exact below_alloc _ _⟩)
    rw [← hw1]
    clear hw1 hQ
    go_loopw [27] (fun bv wr => ∃ b : Nat, b ≤ bs ∧ bv = .int .i64 b ∧ Hid (HoA wc wr Q (.int .i64 (p : Int)) (pgRows n b))) (fun bv _ => bs - (intOf bv).toNat)
    case atStart => exact ⟨0, Nat.zero_le _, rfl, H1⟩
    case round =>
      obtain ⟨w4, hw4⟩ : ∃ w4 : World, w4 = wr := ⟨_, rfl⟩
      rw [← hw4] at hrel ⊢
      clear hw4
      obtain ⟨b, hb, rfl, H4⟩ := hrel
      rcases Nat.lt_or_ge b bs with hlt | hge
      · obtain ⟨q, hq⟩ : ∃ q, q = b * n := ⟨_, rfl⟩
        have hq20 : q ≤ 20 := by rw [hq]; exact Nat.le_trans (Nat.mul_le_mul (by omega : b ≤ 5) hn4) (Nat.le_refl _)
        have hwq : IntKind.i64.wrap ((b : Int) * (n : Int)) = (q : Int) := by
          rw [show (b : Int) * (n : Int) = (q : Int) by rw [hq]; push_cast; rfl]
          exact wrap_nat (x := (q : Int)) (by omega) (by omega)
        have Hq := Lib.hid hq
        clear hq
        go_wp2_with fail
        go_loopw [31, 8] (fun hv v8 wr => ∃ h : Nat, h ≤ n ∧ hv = .int .i64 h ∧ Hid (OwnG wr w4.heap.size 3 v8 (zV (pgRow n b h))) ∧ Hid (Below w4.heap.size w4 wr)) (fun hv _ _ => n - (intOf hv).toNat)
        case atStart => exact ⟨0, Nat.zero_le _, rfl, Lib.hid (OwnG.nil _ _ _), Lib.hid (Below.refl _ _)⟩
        case round =>
          obtain ⟨w5, hw5⟩ : ∃ w5 : World, w5 = wr := ⟨_, rfl⟩
          rw [← hw5] at hrel ⊢
          clear hw5
          obtain ⟨h, hh, rfl, H8, HB5⟩ := hrel
          obtain ⟨A8, c8, h8⟩ := H8.out.shape
          rw [List.length_map, pgRow_len] at h8
          subst h8
          have hs5 := HB5.out.size
          rcases Nat.lt_or_ge h n with hlt2 | hge2
          · have Hrow := Lib.hid (show zV (pgRow n b (h + 1)) = zV (pgRow n b h) ++ [.int .i64 ((q : Int) + h + 1)] by rw [pgRow, ← Hq.out]; simp)
            go_wp2_with (at_builtin; go_loud (refine wpList_pushG rfl _ _ _ rfl eInt (v := .slice A8 h c8) rfl (H8.out.kp fun _ _ => kp_new (below_alloc _ _) _) w5.heap.size (.int .i64 ((q : Int) + h + 1)) rfl (one_new _ _ _) rfl (by rw [List.length_map, pgRow_len]; omega) (by simp; omega) ?_; intro v' w6 hown hgr hnn; (have H6 := Lib.hid (show OwnG w6 w4.heap.size 3 v' (zV (pgRow n b (h + 1))) by rw [Hrow.out]; exact hown); have HB6 := Lib.hid ((HB5.out.alloc hs5 _).grown hgr (by simp; omega) fun k hk => (H8.out.lt k hk).1); clear hown hgr hnn)))
            go_roundw
            case rel => exact ⟨h + 1, by omega, by go_num, H6, HB6⟩
            case measure => simp [intOf]; omega
          · obtain rfl : n = h := by omega
            have H5 := Lib.hid (H4.out.keep HB5.out)
            obtain ⟨v, hv, xs, x1, x2, x3⟩ := H5.out.q
            obtain ⟨Av, cv, hve⟩ := x1.shape
            rw [x2, pgRows_len] at hve
            subst hve
            have q1 := cell_of_row _ _ 1 _ _ (0, 0) hv
            have hQ5 := heap_lt hv
            have hQ4 : Q + 1 ≤ w4.heap.size := by obtain ⟨v, hv, -⟩ := H4.out.q; exact heap_lt hv
            have Hx := Lib.hid x1
            have Hx2 := Lib.hid x2
            have Hx3 := Lib.hid x3
            have Hv := Lib.hid hv
            clear x1 x2 x3 hv
            go_wp2_with (at_builtin; go_loud (refine wpList_pushG rfl _ _ _ rfl eRows (v := .slice Av b cv) rfl (Hx.out.kp fun _ _ => kp_new (below_alloc _ _) _) w5.heap.size (.slice A8 n c8) rfl (one_new _ _ _) rfl (by rw [Hx2.out, pgRows_len]; omega) (by simp; omega) ?_; intro v' w6 hown hgr hnn; (obtain ⟨A6, c6, hv6⟩ := hown.shape; simp only [List.length_append, List.length_singleton, Hx2.out, pgRows_len] at hv6; subst hv6; have hq6 := grown_q (x := Q) hgr (fun g hg => by have := (Hx.out.lt g hg).1; omega) (heap_at_alloc Hv.out); have q60 := cell_of_row _ _ 1 _ _ (0, 0) hq6; have q6f := frozen_of_row _ _ 1 _ _ hq6; have H6 := Lib.hid (HoA.push hq6 hQ5 H5.out.b Hx.out Hx2.out Hx3.out (own_base H8.out hQ4) hown hgr); clear hown hgr hnn hq6)))
            go_roundw
            case rel => exact ⟨b + 1, by omega, by go_num, H6⟩
            case measure => simp [intOf]; omega
      · obtain rfl : bs = b := by omega
        go_wp2_with fail
        go_loopw [52] (fun hv wr => ∃ h : Nat, h ≤ n ∧ hv = .int .i64 h ∧ Hid (HoA wc wr Q (.int .i64 (p : Int)) (pgHs n bs (pgRows n bs) h))) (fun hv _ => n - (intOf hv).toNat)
        case atStart => exact ⟨0, Nat.zero_le _, rfl, H4⟩
        case round =>
          clear H4
          obtain ⟨w4, hw4⟩ : ∃ w4 : World, w4 = wr := ⟨_, rfl⟩
          rw [← hw4] at hrel ⊢
          clear hw4
          obtain ⟨h, hh, rfl, H4⟩ := hrel
          rcases Nat.lt_or_ge h n with hltn | hgen
          · obtain ⟨L, hL⟩ : ∃ L, L = pgHs n bs (pgRows n bs) h := ⟨_, rfl⟩
            have hLl : L.length ≤ 105 := by rw [hL]; have := pgHs_len n bs (pgRows n bs) hb5 h; rw [pgRows_len] at this; omega
            rw [← hL] at H4
            have HL := Lib.hid hL
            clear hL
            go_wp2_with fail
            go_loopw [56] (fun bv wr => ∃ b : Nat, b ≤ bs ∧ bv = .int .i64 b ∧ Hid (HoA wc wr Q (.int .i64 (p : Int)) (pgBs n h L b))) (fun bv _ => bs - (intOf bv).toNat)
            case atStart => exact ⟨0, Nat.zero_le _, rfl, H4⟩
            case round =>
              clear H4
              obtain ⟨w4, hw4⟩ : ∃ w4 : World, w4 = wr := ⟨_, rfl⟩
              rw [← hw4] at hrel ⊢
              clear hw4
              obtain ⟨b, hb, rfl, H4⟩ := hrel
              rcases Nat.lt_or_ge b bs with hltb | hgeb
              · obtain ⟨M, hM⟩ : ∃ M, M = pgBs n h L b := ⟨_, rfl⟩
                have hMl : M.length ≤ 130 := by rw [hM]; have := pgBs_len n h L (b := b) (by omega); omega
                rw [← hM] at H4
                have HM := Lib.hid hM
                clear hM
                obtain ⟨q, hq⟩ : ∃ q, q = b * n := ⟨_, rfl⟩
                have hq20 : q ≤ 20 := by rw [hq]; exact Nat.le_trans (Nat.mul_le_mul (by omega : b ≤ 5) hn4) (Nat.le_refl _)
                have hwq : IntKind.i64.wrap ((b : Int) * (n : Int)) = (q : Int) := by
                  rw [show (b : Int) * (n : Int) = (q : Int) by rw [hq]; push_cast; rfl]
                  exact wrap_nat (x := (q : Int)) (by omega) (by omega)
                have Hq := Lib.hid hq
                clear hq
                go_wp2_with fail
                go_loopw [60] (fun cv wr => ∃ c : Nat, c ≤ b ∧ cv = .int .i64 c ∧ Hid (HoA wc wr Q (.int .i64 (p : Int)) (pgIn n h b M c))) (fun cv _ => b - (intOf cv).toNat)
                case atStart => exact ⟨0, Nat.zero_le _, rfl, H4⟩
                case round =>
                  clear H4
                  obtain ⟨w5, hw5⟩ : ∃ w5 : World, w5 = wr := ⟨_, rfl⟩
                  rw [← hw5] at hrel ⊢
                  clear hw5
                  obtain ⟨c, hc, rfl, H5⟩ := hrel
                  rcases Nat.lt_or_ge c b with hltc | hgec
                  · obtain ⟨r, hr⟩ : ∃ r, r = c * n := ⟨_, rfl⟩
                    have hr20 : r ≤ 20 := by rw [hr]; exact Nat.le_trans (Nat.mul_le_mul (by omega : c ≤ 5) hn4) (Nat.le_refl _)
                    have hwr : IntKind.i64.wrap ((c : Int) * (n : Int)) = (r : Int) := by
                      rw [show (c : Int) * (n : Int) = (r : Int) by rw [hr]; push_cast; rfl]
                      exact wrap_nat (x := (r : Int)) (by omega) (by omega)
                    have Hr := Lib.hid hr
                    clear hr
                    obtain ⟨v, hv, xs, x1, x2, x3⟩ := H5.out.q
                    obtain ⟨Av, cv, hve⟩ := x1.shape
                    obtain ⟨K, hK⟩ : ∃ K, K = xs.length := ⟨_, rfl⟩
                    have hKl : K ≤ 140 := by rw [hK, x2, pgIn_len]; omega
                    rw [← hK] at hve
                    subst hve
                    have HK := Lib.hid hK
                    have q1 := cell_of_row _ _ 1 _ _ (0, 0) hv
                    have hQ5 := heap_lt hv
                    have Hx := Lib.hid x1
                    have Hx2 := Lib.hid x2
                    have Hx3 := Lib.hid x3
                    have Hv := Lib.hid hv
                    clear x1 x2 x3 hv hK
                    have Hd := Lib.hid (show pgIn n h b M (c + 1) = pgIn n h b M c ++ [[-((q : Int) + h + 1), -((r : Int) + h + 1)]] by rw [pgIn, ← Hq.out, ← Hr.out]; simp)
                    have Hx' := Lib.hid (show OwnG (w5.alloc (.cells #[.int .i64 (-((q : Int) + h + 1)), .int .i64 (-((r : Int) + h + 1))] 3)) (Q + 1) 26 (.slice Av K cv) xs from Hx.out.kp fun _ _ => kp_new (below_alloc _ _) _)
                    have Hx3' := Lib.hid (fun (j : Nat) (u : Value) (e : xs[j]? = some u) => show OwnG (w5.alloc (.cells #[.int .i64 (-((q : Int) + h + 1)), .int .i64 (-((r : Int) + h + 1))] 3)) (Q + 1) 3 u (zV ((pgIn n h b M c).getD j [])) from (Hx3.out j u e).kp fun _ _ => kp_new (below_alloc _ _) _)
                    have Hu' := Lib.hid (own_base (lit_own w5 (-((q : Int) + h + 1)) (-((r : Int) + h + 1))) (show Q + 1 ≤ w5.heap.size from hQ5))
                    have Hb' := Lib.hid (show Below Q wc (w5.alloc (.cells #[.int .i64 (-((q : Int) + h + 1)), .int .i64 (-((r : Int) + h + 1))] 3)) from H5.out.b.alloc (by omega) _)
                    go_wp2_with (at_builtin; go_loud (refine wpList_pushG rfl _ _ _ rfl eRows (v := .slice Av K cv) rfl (Hx'.out.kp fun _ _ => kp_new (below_alloc _ _) _) (w5.heap.size + 1) (.slice (some ⟨w5.heap.size, 0, none⟩) 2 2) rfl (by have h9 := one_new (w5.alloc (.cells #[.int .i64 (-((q : Int) + h + 1)), .int .i64 (-((r : Int) + h + 1))] 3)) (.slice (some ⟨w5.heap.size, 0, none⟩) 2 2) 26; rwa [World.size_alloc] at h9) rfl (by rw [← HK.out]; omega) (by simp; omega) ?_; intro v' w6 hown hgr hnn; (obtain ⟨A6, c6, hv6⟩ := hown.shape; simp only [List.length_append, List.length_singleton, ← HK.out] at hv6; subst hv6; have hq6 := grown_q (x := Q) hgr (fun g hg => by have := (Hx.out.lt g hg).1; omega) (heap_at_alloc (heap_at_alloc Hv.out)); have q60 := cell_of_row _ _ 1 _ _ (0, 0) hq6; have q6f := frozen_of_row _ _ 1 _ _ hq6; have H6 := Lib.hid (HoA.push hq6 (by simp; omega) Hb'.out Hx'.out Hx2.out Hx3'.out Hu'.out hown hgr); clear hown hgr hnn hq6)))
                    go_roundw
                    case rel => exact ⟨c + 1, by omega, by go_num, by rw [Hd.out]; exact H6⟩
                    case measure => simp [intOf]; omega
                  · obtain rfl : b = c := by omega
                    go_wp2_with fail
                    go_roundw
                    case rel => exact ⟨b + 1, by omega, by go_num, by rw [pgBs, ← HM.out]; exact H5⟩
                    case measure => simp [intOf]; omega
              · obtain rfl : bs = b := by omega
                go_wp2_with fail
                go_roundw
                case rel => exact ⟨h + 1, by omega, by go_num, by rw [pgHs, ← HL.out]; exact H4⟩
                case measure => simp [intOf]; omega
          · obtain rfl : n = h := by omega
            have H5 : Hid (HoA wc w4 Q (.int .i64 (p : Int)) (pgAll n bs)) := H4
            clear H4
            obtain ⟨C, hC⟩ : ∃ C, C = pgAll n bs := ⟨_, rfl⟩
            rw [← hC] at H5 Hmay Hkind
            obtain ⟨v, hv, hpg⟩ := H5.out.q
            have hQ4 := heap_lt hv
            have HE := Lib.hid (show satMayN (p : Int) C = 0 by have := Hmay.out; rw [Hp.out]; push_cast; exact this)
            have HBw := Lib.hid H5.out.b
            have HR := Lib.hid hpg.reads
            obtain ⟨Av, cv, hve⟩ := hpg.shape
            obtain ⟨N, hN⟩ : ∃ N, N = C.length := ⟨_, rfl⟩
            rw [← hN] at hve
            have HN := Lib.hid hN
            subst hve
            have HX := Lib.hid hv
            have HKw := Lib.hid (fun (W2 : World) (h : Below w4.heap.size w4 W2) => show (W2.cell? ⟨Q, 0, none⟩ = some (.int .i64 (p : Int)) ∧ W2.cell? ⟨Q, 1, none⟩ = some (.slice Av N cv)) ∧ RIntss W2 (Lt W2.heap.size) (.slice Av N cv) C from
              ⟨⟨cell_of_row _ _ 0 _ _ (0, 0) ((h.block _ hQ4).trans HX.out), cell_of_row _ _ 1 _ _ (0, 0) ((h.block _ hQ4).trans HX.out)⟩, RIntss.stable.up HR.out h⟩)
            have q0 := cell_of_row _ _ 0 _ _ (0, 0) hv
            have q1 := cell_of_row _ _ 1 _ _ (0, 0) hv
            have HS := Lib.hid (show Calls Try.prog 12 #[.agg #[.int .i64 (p : Int), .slice Av N cv], .int .i64 1048576] w4 _ from solve_law HR.out HE.out (most := 1048576) (by omega) (fun _ B S => forget_any B S))
            clear hv hpg hC hN
            go_upto_region 31 with (go_at_call 12; with_reducible refine HS.out.mono ?_; rintro e w5 ⟨a, ev, kv, A1, A2, n1, c1, n2, c2, rfl, ha, b5⟩; go_loud (have HA5 := Lib.hid ha; have HB5 := Lib.hid b5; clear b5 ha))
            obtain ⟨w6, hw6⟩ : ∃ w6, w6 = w5.alloc (.cells #[.int .i64 ev, .slice A1 n1 c1, .slice A2 n2 c2, .int .i64 kv] 33) := ⟨_, rfl⟩
            have HB6 := Lib.hid (show Below w4.heap.size w4 w6 by rw [hw6]; exact HB5.out.alloc HB5.out.size _)
            have HX6 := Lib.hid (show w6.heap[w5.heap.size]? = some (.cells #[.int .i64 ev, .slice A1 n1 c1, .slice A2 n2 c2, .int .i64 kv] 33 (0, 0)) by rw [hw6]; exact heap_alloc_new _ _)
            have hs6 : w5.heap.size < w6.heap.size := by rw [hw6]; simp
            obtain ⟨⟨p0, p1⟩, p2⟩ := HKw.out w6 HB6.out
            have hb6 : Below w5.heap.size w5 w6 := by rw [hw6]; exact below_alloc _ _
            have HR6 := Lib.hid (right_any (n := p) (most := 1048576) p2 (HA5.out.rd.agree (S' := Lt w6.heap.size) ((ag_of_below hb6).sub fun b hb => hb.2) (fun b hb => Nat.lt_trans hb.2 hs6)) HE.out (by omega) HA5.out.ok HA5.out.pb)
            have x0 := cell_of_row _ _ 0 _ _ (0, 0) HX6.out
            have x1 := cell_of_row _ _ 1 _ _ (0, 0) HX6.out
            have x2 := cell_of_row _ _ 2 _ _ (0, 0) HX6.out
            have x3 := cell_of_row _ _ 3 _ _ (0, 0) HX6.out
            have HX7 := Lib.hid (fun (W2 : World) (h : Below w6.heap.size w6 W2) => show W2.heap[w5.heap.size]? = some (.cells #[.int .i64 ev, .slice A1 n1 c1, .slice A2 n2 c2, .int .i64 kv] 33 (0, 0)) from (h.block _ hs6).trans HX6.out)
            have z : (ev == 2) = full := by
              obtain ⟨-, -, -, -, -, g⟩ := HA5.out.nums
              rw [g]
              have hk := kind_eq HE.out HA5.out.sr (f := 500) (k := if full = true then 2 else 1) (by rw [Hp.out]; exact Hkind.out) (by cases full <;> simp)
              cases a <;> cases full <;> simp [kindS] at hk <;> rfl
            obtain ⟨d, hd⟩ : ∃ d, d = w5.heap.size := ⟨_, rfl⟩
            rw [← hd] at HX7 x0 x1 x2 x3 ⊢
            rw [hd, ← hw6, ← hd]
            clear p2 hb6 hw6 hd q0 q1 HS HA5 HX6
            go_wp2_with (first
              | (go_at_call 15; with_reducible refine HR6.out.mono ?_; rintro e w7 ⟨rfl, b7⟩; go_loud (have HB7 := Lib.hid (HB6.out.trans (b7.mono HB6.out.size)); have y7 := HX7.out w7 b7; have y0 := cell_of_row _ _ 0 _ _ (0, 0) y7; clear b7 y7))
              | (go_at_call 9; with_reducible refine (lives_any _).mono ?_; rintro e w8 ⟨rfl, hb8⟩))
            all_goals go_ret
            all_goals exact ⟨rfl, HQ.out ▸ HBw.out.trans ((HB7.out.trans (hb8.mono HB7.out.size)).mono (Nat.le_of_lt hQ4))⟩
end Go.Proofs.Ytdepdceaojenoaa
