/- The question of a deal: what the reference computes. -/
import Derived.Test.YtlaihjhkghbfkaaCnfE3
namespace Go.Proofs.Ytlaihjhkghbfkaa
open Go.RowKit

abbrev inQ (w : World) (B g : Nat) (own : Option Nat) : Nat → Prop := fun b => B ≤ b ∧ b < w.heap.size ∧ b ≠ g ∧ some b ≠ own
/-- The reference's question, block g: its clauses are cs; all of it lies from block B on; own: the block of its row. -/
def QAt (w : World) (B g n0 : Nat) (own : Option Nat) (cs : List (List Int)) : Prop :=
  ∃ v xs, w.heap[g]? = some (.cells #[.int .i64 (n0 : Int), v] 34 (0, 0)) ∧ w.ownsRow B 39 1 v cs.length xs ∧ v.ownBlock = own ∧ own ≠ some g ∧
    ∀ i (h : i < cs.length) u, xs[i]? = some u → RInts w (inQ w B g own) u cs[i]
theorem QAt.lt {w : World} {B g n0 : Nat} {own : Option Nat} {cs : List (List Int)} (h : QAt w B g n0 own cs) : g < w.heap.size ∧ ∀ b, own = some b → B ≤ b ∧ b < w.heap.size ∧ b ≠ g := by
  obtain ⟨v, xs, h1, h2, rfl, h3, _⟩ := h
  exact ⟨(Array.getElem?_eq_some_iff.1 h1).1, fun b hb => by have := h2.lt b hb; exact ⟨this.1, this.2, fun e => h3 (by rw [hb, e])⟩⟩
theorem QAt.keep {w w' : World} {B g n0 : Nat} {own : Option Nat} {cs : List (List Int)} (h : QAt w B g n0 own cs) (hb : Below w.heap.size w w') : QAt w' B g n0 own cs := by
  have hlt := h.lt
  obtain ⟨v, xs, h1, h2, h3, h3', h4⟩ := h
  have hg : w.grownBy w' none := grown_none_of_below hb none
  refine ⟨v, xs, (hb.block g hlt.1).trans h1, h2.kept hg (by cases hv : v.ownBlock with | none => exact .inl rfl | some b => exact .inr (by simp)), h3, h3', fun i hi u hu => ?_⟩
  exact RInts.stable _ _ _ _ _ _ (h4 i hi u hu) (fun b hb' => hb.block b hb'.2.1) fun b hb' => ⟨hb'.1, Nat.lt_of_lt_of_le hb'.2.1 hb.size, hb'.2.2⟩
/-- Behind the append and the store. -/
theorem QAt.push {w w3 : World} {B g n0 : Nat} {own : Option Nat} {cs : List (List Int)} {v v1 l : Value} {c : List Int} {xs : List Value} {o : Obj} (hBg : B ≤ g) (h : QAt w B g n0 own cs)
    (h1 : w.heap[g]? = some (.cells #[.int .i64 (n0 : Int), v] 34 (0, 0))) (hv : v.ownBlock = own) (hxl : xs.length = cs.length) (h4 : ∀ i (h : i < cs.length) u, xs[i]? = some u → RInts w (inQ w B g own) u cs[i])
    (hl : RInts w (inQ w B g own) l c) (hown1 : w3.ownsRow B 39 1 v1 (cs.length + 1) (xs ++ [l])) (hg1 : (w.alloc o).grownBy w3 v.ownBlock) (hat1 : v1.ownBlock = v.ownBlock ∨ v1.ownBlock = some (w.alloc o).heap.size) :
    QAt (w3.setCell ⟨g, 1, none⟩ v1) B g n0 v1.ownBlock (cs ++ [c]) ∧ Below B w (w3.setCell ⟨g, 1, none⟩ v1) ∧ w.heap.size < (w3.setCell ⟨g, 1, none⟩ v1).heap.size := by
  have hlt := h.lt
  have hgw := hlt.1
  have hBw : B ≤ w.heap.size := by omega
  have hgb := (hg1.block g (by simp; omega) (by rw [hv]; exact fun e => (hlt.2 g e.symm).2.2 rfl)).trans ((Below.heap_alloc w o g hgw).trans h1)
  have hsz3 : w.heap.size + 1 ≤ w3.heap.size := by have := hg1.size; simpa using this
  have hag : Ag (inQ w B g own) w (w3.setCell ⟨g, 1, none⟩ v1) := fun b hb =>
    (Below.heap_setCell _ _ _ _ (fun e => hb.2.2.1 e)).trans ((hg1.block b (by simp; omega) (by rw [hv]; exact hb.2.2.2)).trans (Below.heap_alloc w _ b hb.2.1))
  have hgr : w3.grownBy (w3.setCell ⟨g, 1, none⟩ v1) (some g) := ⟨rfl, rfl, rfl, by simp, fun k _ hk => Below.heap_setCell _ _ _ _ (fun e => hk (by simp [e]))⟩
  have howns : v1.ownBlock = own ∨ ∃ b, v1.ownBlock = some b ∧ w.heap.size ≤ b := by
    rcases hat1 with h | h
    · exact .inl (h.trans hv)
    · exact .inr ⟨_, h, by simp⟩
  have hv1g : v1.ownBlock ≠ some g := by
    rcases howns with h | ⟨b, h, hb⟩
    · rw [h]; exact fun e => (hlt.2 g e).2.2 rfl
    · rw [h]; intro e; simp at e; omega
  have hinner : ∀ b, inQ w B g own b → inQ (w3.setCell ⟨g, 1, none⟩ v1) B g v1.ownBlock b := fun b hb => ⟨hb.1, by simp; omega, hb.2.2.1, by
    rcases howns with h | ⟨b', h, hb'⟩
    · rw [h]; exact hb.2.2.2
    · rw [h]; intro e; simp at e; omega⟩
  refine ⟨⟨v1, xs ++ [l], ?_, ?_, rfl, hv1g, fun i hi u hu => ?_⟩, ?_, by simp; omega⟩
  · exact heap_setCell_same w3 g 1 _ _ v1 hgb
  · rw [List.length_append]
    exact hown1.kept hgr (.inr hv1g)
  · rcases Nat.lt_or_ge i cs.length with h | h
    · rw [List.getElem?_append_left (by omega)] at hu
      rw [List.getElem_append_left h]
      exact RInts.stable _ _ _ _ _ _ (h4 i h u hu) hag hinner
    · have hie : i = cs.length := by simp at hi; omega
      subst hie
      rw [List.getElem?_append_right (by omega), hxl] at hu
      simp at hu
      subst hu
      simp only [List.getElem_append_right (Nat.le_refl _), Nat.sub_self, List.getElem_cons_zero]
      exact RInts.stable _ _ _ _ _ _ hl hag hinner
  · refine (((Below.refl B w).alloc hBw _).grown hg1 (by simp; omega) (fun b hb => ?_)).setCell (p := ⟨g, 1, none⟩) hBg _
    exact (hlt.2 b (by rw [← hv]; exact hb)).1
/-- The state, opened for a walk. -/
theorem QAt.open_ {w : World} {B g n0 : Nat} {own : Option Nat} {cs : List (List Int)} (h : QAt w B g n0 own cs) :
    ∃ A k xs, w.heap[g]? = some (.cells #[.int .i64 (n0 : Int), .slice A cs.length k] 34 (0, 0)) ∧ w.cell? ⟨g, 0, none⟩ = some (.int .i64 (n0 : Int)) ∧ w.cell? ⟨g, 1, none⟩ = some (.slice A cs.length k) ∧
      w.ownsRow B 39 1 (.slice A cs.length k) cs.length xs ∧ (Value.slice A cs.length k).ownBlock = own ∧ xs.length = cs.length ∧ (∀ i (h : i < cs.length) u, xs[i]? = some u → RInts w (inQ w B g own) u cs[i]) ∧
      RIntss w (fun b => B ≤ b ∧ b < w.heap.size) (.slice A cs.length k) cs := by
  obtain ⟨v, xs, h1, h2, h3, h3', h4⟩ := h
  obtain ⟨A, k, rfl⟩ := own_shape h2
  exact ⟨A, k, xs, h1, by rw [cell_of_row _ _ 0 _ _ _ h1]; rfl, by rw [cell_of_row _ _ 1 _ _ _ h1]; rfl, h2, h3, by simpa using h2.1, h4,
    reads_of_own h2 rfl (fun b hb => h2.lt b hb) fun k hk u hu => RInts.stable.sub (h4 k hk u hu) fun b hb => ⟨hb.1, hb.2.1⟩⟩
def EncRefPost (items : List ItemD) (wss : List (List (List Int))) (r : Int) (w : World) (e : Ending) (w' : World) : Prop :=
  ∃ s, e = .returned (.tuple #[.agg #[.int .i64 (items.length : Int), s], .bool (decide ((allCls items wss r).length ≤ 16384))]) ∧ RIntss w' (Lt w'.heap.size) s (allCls items wss r) ∧ Below w.heap.size w w'
theorem pairsTo_len (items : List ItemD) : ∀ m, (pairsTo items m).length ≤ m * items.length
  | 0 => by simp [pairsTo]
  | m + 1 => by
    have h1 := pairsTo_len items m
    have h2 : (pairsAt items m items.length).length ≤ items.length := by
      unfold pairsAt; rw [List.length_map]; exact Nat.le_trans (List.length_filter_le _ _) (by simp)
    rw [pairsTo_succ, List.length_append, Nat.succ_mul]; omega
theorem pairsAt_len (items : List ItemD) (i m : Nat) : (pairsAt items i m).length ≤ m := by
  unfold pairsAt; rw [List.length_map]; exact Nat.le_trans (List.length_filter_le _ _) (by simp)

theorem QAt.start (W : World) (x : Int) (n0 : Nat) {a b : Nat} (ha : a = W.heap.size) (hb : b = W.heap.size + 1) :
    QAt (((W.alloc (.cells #[.int .i64 x] 3)).alloc (.cells #[.slice (some ⟨a, 0, none⟩) 1 1] 39)).alloc (.cells #[.int .i64 (n0 : Int), .slice (some ⟨b, 0, none⟩) 1 1] 34)) W.heap.size (W.heap.size + 1 + 1) n0 (some (W.heap.size + 1)) [[x]] := by
  subst ha hb
  have h2 := World.ownsRow_lit (base := W.heap.size) (e := 39) (size := 1) (W.alloc (.cells #[.int .i64 x] 3)) #[.slice (some ⟨W.heap.size, 0, none⟩) 1 1] 1 (by simp) (by unfold maxLen; omega) (by simp)
  simp only [World.size_alloc] at h2
  have h3 := heap_alloc_new ((W.alloc (.cells #[.int .i64 x] 3)).alloc (.cells #[.slice (some ⟨W.heap.size, 0, none⟩) 1 1] 39)) (.cells #[.int .i64 (n0 : Int), .slice (some ⟨W.heap.size + 1, 0, none⟩) 1 1] 34)
  simp only [World.size_alloc] at h3
  refine ⟨_, _, h3, h2.alloc _, rfl, by simp, fun i hi u hu => ?_⟩
  have h0 : i = 0 := by simp at hi; omega
  subst h0
  simp at hu
  subst hu
  refine RInts.stable _ _ _ _ _ _ (lit_ints W [x] (S := fun b => b = W.heap.size) rfl rfl rfl (by simp)) (fun b hb => ?_) (fun b hb => ?_)
  · subst hb
    exact (Below.heap_alloc _ _ _ (by simp; omega)).trans (Below.heap_alloc _ _ _ (by simp))
  · subst hb
    exact ⟨Nat.le_refl _, by simp; omega, by omega, by simp⟩
def EncEnv (w wr : World) (v0 v1 : Value) (_r : Int) : Prop :=
  wr.cell? ⟨w.heap.size, 0, none⟩ = some v0 ∧ wr.cell? ⟨w.heap.size, 1, none⟩ = some v1 ∧ wr.cell? ⟨w.heap.size + 1, 0, none⟩ = some (.int .i64 0) ∧ wr.cell? ⟨w.heap.size + 1, 1, none⟩ = some (.slice none 0 0) ∧
    wr.frozen? ⟨w.heap.size + 1, 0, none⟩ = false ∧ wr.frozen? ⟨w.heap.size + 1, 1, none⟩ = false ∧ Below w.heap.size w wr
theorem EncEnv.keep {w wr wr' : World} {v0 v1 : Value} {r : Int} (h : EncEnv w wr v0 v1 r) (hb : Below (w.heap.size + 1 + 1) wr wr') : EncEnv w wr' v0 v1 r := by
  obtain ⟨h0, h1, h2, h3, h4, h5, h6⟩ := h
  exact ⟨(hb.cell (p := ⟨w.heap.size, 0, none⟩) (by simp; omega)).trans h0, (hb.cell (p := ⟨w.heap.size, 1, none⟩) (by simp; omega)).trans h1, (hb.cell (p := ⟨w.heap.size + 1, 0, none⟩) (by simp)).trans h2,
    (hb.cell (p := ⟨w.heap.size + 1, 1, none⟩) (by simp)).trans h3, (hb.frozen (p := ⟨w.heap.size + 1, 0, none⟩) (by simp)).trans h4, (hb.frozen (p := ⟨w.heap.size + 1, 1, none⟩) (by simp)).trans h5, h6.trans (hb.mono (by omega))⟩
theorem EncEnv.start (w : World) (v0 v1 : Value) (r : Int) : EncEnv w ((w.alloc (.cells #[v0, v1, .int .i64 r] 25)).alloc (.cells #[.int .i64 0, .slice none 0 0] 34)) v0 v1 r := by
  refine ⟨?_, ?_, ?_, ?_, ?_, ?_, (below_alloc _ _).alloc (by simp) _⟩ <;> simp [go_sem]
theorem EncEnv.drewN {w wr : World} {v0 v1 : Value} {r : Int} (h : EncEnv w wr v0 v1 r) (n : Nat) : EncEnv w (wr.drewN n) v0 v1 r := ⟨h.1, h.2.1, h.2.2.1, h.2.2.2.1, h.2.2.2.2.1, h.2.2.2.2.2.1, below_drewN h.2.2.2.2.2.2 n⟩
theorem QAt.drewN {w : World} {B g n0 : Nat} {own : Option Nat} {cs : List (List Int)} (h : QAt w B g n0 own cs) (n : Nat) : QAt (w.drewN n) B g n0 own cs := by
  obtain ⟨v, xs, h1, h2, h3, h3', h4⟩ := h
  exact ⟨v, xs, h1, h2, h3, h3', fun i hi u hu => RInts.stable _ _ _ _ _ _ (h4 i hi u hu) (fun _ _ => rfl) fun _ h => h⟩
abbrev qB (w : World) : Nat := w.heap.size + 1 + 1
abbrev qG (w : World) : Nat := w.heap.size + 1 + 1 + 1 + 1

set_option maxRecDepth 100000 in
set_option maxHeartbeats 4000000 in
theorem refEncode_any (s0 s1 : Value) (r : Int) (items : List ItemD) (wss : List (List (List Int))) (w : World) (h0 : RItems w (Lt w.heap.size) s0 items)
    (hw : RIntsss w (Lt w.heap.size) s1 wss) (hl : lightW wss) (hmay : mayN items.length r wss = 0) :
    Calls Try.prog 14 #[.agg #[s0, s1, .int .i64 r]] w (EncRefPost items wss r w) := by
  obtain ⟨A0, c0, rfl, hm0, hat0⟩ := h0.open_
  obtain ⟨A1, c1, rfl, hm1, hat1⟩ := hw.open_
  clear h0 hw
  have Hat0 := Lib.hid hat0; clear hat0
  have Hat1 := Lib.hid hat1; clear hat1
  have Hl := Lib.hid hl; clear hl
  obtain ⟨hn0, hr, hlen, hbad⟩ := mayN_zero hmay
  obtain ⟨hr0, hr1⟩ := isItemB_iff.1 hr
  have hpos : 0 < items.length := by omega
  have hwcl := wcls_len Hl.out 0
  have Hwcl := Lib.hid (show (wcls wss 0).length ≤ 10 * items.length by rw [← hlen]; exact hwcl)
  have Hv := Lib.hid (validW_of hbad)
  clear hmay hbad hr hwcl
  have Hlen := Lib.hid hlen; clear hlen
  obtain ⟨bi, offi, rfl, hbi, hz1⟩ := item_cells Hat0.out hpos
  clear hz1
  obtain ⟨bw, offw, uz, rfl, hbw, hz2, hz3⟩ := Hat1.out.lt_ (k := 0) (by rw [Hlen.out]; exact hpos)
  clear hz2 hz3
  go_enter Try.func14, Try.ntmps14
  go_wp2
  have hst := QAt.start ((w.alloc (.cells #[.slice (some ⟨bi, offi, none⟩) items.length c0, .slice (some ⟨bw, offw, none⟩) wss.length c1, .int .i64 r] 25)).alloc (.cells #[.int .i64 0, .slice none 0 0] 34)) (r + 1) items.length (a := w.heap.size + 1 + 1) (b := w.heap.size + 1 + 1 + 1) (by simp) (by simp)
  simp only [World.size_alloc] at hst
  have hest := (EncEnv.start w (.slice (some ⟨bi, offi, none⟩) items.length c0) (.slice (some ⟨bw, offw, none⟩) wss.length c1) r)
  have Hst := Lib.hid hst
  have Hest := Lib.hid (hest.keep ((((below_alloc _ (.cells #[.int .i64 (r + 1)] 3)).alloc (by simp) (.cells #[.slice (some ⟨w.heap.size + 1 + 1, 0, none⟩) 1 1] 39)).alloc (by simp <;> omega) (.cells #[.int .i64 (items.length : Int), .slice (some ⟨w.heap.size + 1 + 1 + 1, 0, none⟩) 1 1] 34)).mono (by simp)))
  clear hst hest
  go_loopw [27] (fun sv wr => ∃ (i : Nat) (own : Option Nat), i ≤ items.length ∧ sv = .int .i64 i ∧ Hid (EncEnv w wr (.slice (some ⟨bi, offi, none⟩) items.length c0) (.slice (some ⟨bw, offw, none⟩) wss.length c1) r ∧ QAt wr (qB w) (qG w) items.length own ([r + 1] :: wcls (wss.take i) 0))) (fun sv _ => items.length - (intOf sv).toNat)
  case atStart => exact ⟨0, _, Nat.zero_le _, rfl, Hest.out, Hst.out⟩
  case round =>
    obtain ⟨i, owni, hile, rfl, hq⟩ := hrel
    have hy0 := hq.out.1.1
    have hy1 := hq.out.1.2.1
    by_cases hilt : i < items.length
    · have hiw : i < wss.length := by rw [Hlen.out]; exact hilt
      obtain ⟨ui, hcelli, hui⟩ := (Hat1.out.agree RIntss.stable (ag_of_below hq.out.1.2.2.2.2.2.2) (fun _ h => h)).again hiw
      obtain ⟨A2, c2, rfl, hm2, hat2⟩ := hui.open_
      have Hat2 := Lib.hid hat2; clear hat2
      have Hli := Lib.hid (Hl.out _ (List.getElem_mem hiw))
      have Hvi := Lib.hid (Hv.out i hiw)
      have hwi : (wcls (wss.take i) 0).length ≤ 100000 := by
        have := wcls_len (wss := wss.take i) (fun ws hws => Hl.out ws (List.mem_of_mem_take hws)) 0
        rw [List.length_take] at this
        omega
      obtain ⟨wi, rfl⟩ : ∃ w0 : World, w0 = wr := ⟨_, rfl⟩
      have Hwi := Lib.hid (show Below w.heap.size w wi from hq.out.1.2.2.2.2.2.2)
      go_wp2
      go_loopw [36] (fun sv wr => ∃ (j : Nat) (own : Option Nat), j ≤ (wss[i]).length ∧ sv = .int .i64 j ∧ Hid (Ag (Lt w.heap.size) wi wr) ∧ Hid (EncEnv w wr (.slice (some ⟨bi, offi, none⟩) items.length c0) (.slice (some ⟨bw, offw, none⟩) wss.length c1) r ∧ QAt wr (qB w) (qG w) items.length own (([r + 1] :: wcls (wss.take i) 0) ++ ((wss[i]).take j).map (wantCl i)))) (fun sv _ => (wss[i]).length - (intOf sv).toNat)
      case atStart => exact ⟨0, owni, Nat.zero_le _, rfl, Ag.refl _ _, hq.out.1, by simpa using hq.out.2⟩
      case round =>
        obtain ⟨j, ownj, hjle, rfl, hagj, hqj⟩ := hrel
        clear hy0 hy1 hcelli
        by_cases hjlt : j < (wss[i]).length
        · obtain ⟨wj, rfl⟩ : ∃ w0 : World, w0 = wr := ⟨_, rfl⟩
          obtain ⟨bj, offj, uj, rfl, hbj, hcellj, huj⟩ := Hat2.out.at_ RInts.stable hagj.out hjlt
          obtain ⟨A3, c3, rfl, hm3, hat3⟩ := huj.open_
          have Hat3 := Lib.hid hat3; clear hat3
          have hq40 := Hli.out.2 _ (List.getElem_mem hjlt)
          have hj10 := Hli.out.1
          have Hvj := Lib.hid (Hvi.out _ (List.getElem_mem hjlt))
          have hltj := hqj.out.2.lt.1
          have hwj : w.heap.size < wj.heap.size := by simp only [qG] at hltj; omega
          go_wp2
          go_loopw [46, 8] (fun sv l wr => ∃ q : Nat, q ≤ (wss[i][j]).length ∧ sv = .int .i64 q ∧ Below wj.heap.size wj wr ∧ wr.ownsRow wj.heap.size 3 1 l (q + 1) ((-((i : Int) + 1) :: ((wss[i][j]).take q).map (· + 1)).map (Value.int .i64))) (fun sv _ _ => (wss[i][j]).length - (intOf sv).toNat)
          case atStart => exact ⟨0, Nat.zero_le _, rfl, below_alloc _ _, World.ownsRow_lit (base := wj.heap.size) (size := 1) wj #[.int .i64 (-((i : Int) + 1))] 1 (Nat.le_refl _) (by unfold maxLen; omega) (by simp)⟩
          case round =>
            obtain ⟨q, hqle, rfl, hbelq, hown⟩ := hrel
            obtain ⟨Aq, cq, rfl⟩ := own_shape hown
            have Hbelq := Lib.hid hbelq
            have Hown := Lib.hid hown
            clear hbelq hown
            by_cases hqlt : q < (wss[i][j]).length
            · obtain ⟨bq, offq, uq, rfl, hbq, hcellq, huq⟩ := Hat3.out.at_ RInt.stable (ag_of_below (Hbelq.out.mono (by omega))) hqlt
              obtain rfl := huq
              obtain ⟨hx0, hx1⟩ := Hvj.out _ (List.getElem_mem hqlt)
              go_wp2_with (
                at_builtin
                refine wpList_push rfl _ _ _ rfl eInt (v := .slice Aq (q + 1) cq) rfl (Hown.out.alloc _) wr.heap.size (.int .i64 (wss[i][j][q] + 1)) rfl (by simp [go_sem]) rfl (by omega) (by have := Hbelq.out.size; simp; omega) ?_
                intro v1 w3 hown1 hg1 hat1
                obtain ⟨A1, k1, rfl⟩ := own_shape hown1)
              go_roundw
              case rel =>
                refine ⟨q + 1, by omega, by go_num, ?_, ?_⟩
                · exact (Hbelq.out.alloc Hbelq.out.size _).grown hg1 (by have := Hbelq.out.size; simp; omega) (fun b hb => (Hown.out.lt b hb).1)
                · rw [List.take_succ_eq_append_getElem hqlt, List.map_append, ← List.cons_append, List.map_append]; exact hown1
              case measure => simp [intOf]; omega
            · obtain rfl : q = (wss[i][j]).length := by omega
              have hrd : RInts wr (inQ wr (qB w) (qG w) ownj) (.slice Aq ((wss[i][j]).length + 1) cq) (wantCl i wss[i][j]) := by
                have h5 := Hown.out
                rw [List.take_length] at h5
                have h6 : (wantCl i wss[i][j]).length = (wss[i][j]).length + 1 := by simp [wantCl]
                rw [← h6] at h5 ⊢
                refine ints_of_own h5 fun b hb => ?_
                obtain ⟨h7, h8⟩ := h5.lt b hb
                exact ⟨by simp only [qB, qG] at *; omega, h8, by simp only [qG] at *; omega, fun e => by have := hqj.out.2.lt.2 b e.symm; omega⟩
              have Hrd := Lib.hid hrd; clear hrd
              have hqw := hqj.out.2.keep Hbelq.out
              obtain ⟨Am, km, xs, g1, g2, g3, g4, g5, g6, g7, g8⟩ := hqw.open_
              have hlq : (([r + 1] :: wcls (wss.take i) 0) ++ ((wss[i]).take j).map (wantCl i)).length < 1000000 := by simp; omega
              have Hqw := Lib.hid hqw
              have HG := Lib.hid (And.intro g1 (And.intro g4 (And.intro g5 (And.intro g6 g7))))
              have Hee := Lib.hid (hqj.out.1.keep (Hbelq.out.mono (by simp only [qG] at hltj; omega)))
              have hltr := hqw.lt.1
              have hBG : qB w ≤ qG w := by simp only [qG, qB]; omega
              have hBr : qB w ≤ wr.heap.size := by omega
              clear hqw g1 g4 g5 g6 g7 g8
              obtain ⟨csl, hcsl⟩ : ∃ csl, csl = (([r + 1] :: wcls (wss.take i) 0) ++ ((wss[i]).take j).map (wantCl i)) := ⟨_, rfl⟩
              rw [← hcsl] at hlq Hqw HG g3
              have Hcsl := Lib.hid hcsl; clear hcsl
              go_wp2_with (
                at_builtin
                go_loud (refine wpList_push rfl _ _ _ rfl eRow (v := .slice Am csl.length km) rfl (HG.out.2.1.alloc _) wr.heap.size (.slice Aq ((wss[i][j]).length + 1) cq) rfl (by simp [go_sem]) rfl (by omega) (Nat.le_trans hBr (by simp)) ?_)
                intro v1 w3 hown1 hg1 hat1
                obtain ⟨A1, k1, rfl⟩ := own_shape hown1
                go_loud (have hpush := QAt.push hBG Hqw.out HG.out.1 HG.out.2.2.1 HG.out.2.2.2.1 HG.out.2.2.2.2 Hrd.out hown1 hg1 hat1)
                go_loud (have hgb := (hg1.block (qG w) (Nat.lt_trans hltr (by simp)) (by rw [HG.out.2.2.1]; exact fun e => (Hqw.out.lt.2 _ e.symm).2.2 rfl)).trans ((Below.heap_alloc wr _ _ hltr).trans HG.out.1))
                go_loud (have hd1 : w3.cell? ⟨qG w, 1, none⟩ = some (.slice Am csl.length km) := by rw [cell_of_row _ _ 1 _ _ _ hgb]; rfl)
                go_loud (have hfz1 : w3.frozen? ⟨qG w, 1, none⟩ = false := frozen_of_row w3 (qG w) 1 _ _ hgb)
                have Hpush := Lib.hid hpush
                clear hgb hpush)
              go_roundw
              case rel => exact ⟨j + 1, _, by omega, by go_num, hagj.out.trans ((ag_of_below (Hbelq.out.mono (Nat.le_of_lt hwj))).trans (ag_of_below (Hpush.out.2.1.mono (by simp only [qB]; omega)))), Hee.out.keep Hpush.out.2.1, by
                have h5 := Hpush.out.1
                rw [List.take_succ_eq_append_getElem hjlt, List.map_append, ← List.append_assoc, ← Hcsl.out]; exact h5⟩
              case measure => simp [intOf]; omega
        · obtain rfl : j = (wss[i]).length := by omega
          go_wp2
          go_roundw
          case rel => exact ⟨i + 1, ownj, by omega, by go_num, hqj.out.1, by
            have := hqj.out.2
            rw [List.take_length] at this
            rw [wcls_succ hiw]; exact this⟩
          case measure => simp [intOf]; omega
    · obtain rfl : i = items.length := by omega
      have Hq := Lib.hid (show EncEnv w wr (.slice (some ⟨bi, offi, none⟩) items.length c0) (.slice (some ⟨bw, offw, none⟩) wss.length c1) r ∧ QAt wr (qB w) (qG w) items.length owni (headCls r wss ++ pairsTo items 0) from ⟨hq.out.1, by
        have h5 := hq.out.2
        rw [← Hlen.out, List.take_length] at h5
        simpa [pairsTo, headCls, Hlen.out] using h5⟩)
      clear hq
      go_wp2
      go_loopw [67] (fun sv wr => ∃ (i : Nat) (own : Option Nat), i ≤ items.length ∧ sv = .int .i64 i ∧ Hid (EncEnv w wr (.slice (some ⟨bi, offi, none⟩) items.length c0) (.slice (some ⟨bw, offw, none⟩) wss.length c1) r ∧ QAt wr (qB w) (qG w) items.length own (headCls r wss ++ pairsTo items i))) (fun sv _ => items.length - (intOf sv).toNat)
      case atStart => exact ⟨0, owni, Nat.zero_le _, rfl, Hq.out⟩
      case round =>
        obtain ⟨i, own, hile, rfl, hqi⟩ := hrel
        clear hy0 hy1
        by_cases hilt : i < items.length
        · go_wp2
          go_loopw [12] (fun sv wr => ∃ (k : Nat) (own : Option Nat), i + 1 ≤ k ∧ k ≤ items.length ∧ sv = .int .i64 k ∧ Hid (EncEnv w wr (.slice (some ⟨bi, offi, none⟩) items.length c0) (.slice (some ⟨bw, offw, none⟩) wss.length c1) r ∧ QAt wr (qB w) (qG w) items.length own (headCls r wss ++ pairsTo items i ++ pairsAt items i k))) (fun sv _ => items.length - (intOf sv).toNat)
          case atStart => exact ⟨i + 1, own, Nat.le_refl _, by omega, by go_num, hqi.out.1, by rw [pairsAt_le items i (i + 1) (Nat.le_refl _)]; simpa using hqi.out.2⟩
          case round =>
            obtain ⟨k, ownk, hik, hkle, rfl, hqk⟩ := hrel
            have hy0 := hqk.out.1.1
            by_cases hklt : k < items.length
            · have Hitems := Lib.hid (Hat0.out.agree (VCells.stable _) (ag_of_below hqk.out.1.2.2.2.2.2.2) (fun _ h => h))
              obtain ⟨hi0, hi1, hi2, hi3, hi4⟩ := item_again Hitems.out hilt
              obtain ⟨hk0, hk1, hk2, hk3, hk4⟩ := item_again Hitems.out hklt
              clear hi4 hk4
              have hplen : (headCls r wss ++ pairsTo items i ++ pairsAt items i k).length < 10000000 := by
                have h1 := pairsTo_len items i
                have h2 := pairsAt_len items i k
                have h3 : i * items.length ≤ 1024 * 1024 := Nat.mul_le_mul (by omega) hn0
                have h4 := Hwcl.out
                simp only [headCls, List.length_append, List.length_cons]
                omega
              have Hsucc := Lib.hid (pairsAt_succ items i k)
              obtain ⟨csl, hcsl⟩ : ∃ csl, csl = headCls r wss ++ pairsTo items i ++ pairsAt items i k := ⟨_, rfl⟩
              have Hqk := Lib.hid (show EncEnv w wr (.slice (some ⟨bi, offi, none⟩) items.length c0) (.slice (some ⟨bw, offw, none⟩) wss.length c1) r ∧ QAt wr (qB w) (qG w) items.length ownk csl by rw [hcsl]; exact hqk.out)
              rw [← hcsl] at hplen
              have Hcsl := Lib.hid hcsl
              clear hcsl hqk
              cases hq : decide (items[i].1 = items[k].1) with
              | false =>
                have heq : ∀ W : World, (binOp .eql 47 (.agg #[.string items[i].1.1, .string items[i].1.2.1, .string items[i].1.2.2.1, .string items[i].1.2.2.2]) (.agg #[.string items[k].1.1, .string items[k].1.2.1, .string items[k].1.2.2.1, .string items[k].1.2.2.2])).run Try.prog W = .ok (.bool false) W := fun W => by rw [eqKey, hq]
                have Hs := Lib.hid (show pairsAt items i (k + 1) = pairsAt items i k by
                  have h5 : kAt items i ≠ kAt items k := by
                    have h6 := of_decide_eq_false hq
                    unfold kAt; rw [keyAt_eq (by simpa using hilt), keyAt_eq (by simpa using hklt)]; simpa using h6
                  rw [Hsucc.out]; simp [h5])
                clear hq
                go_wp2
                go_quiet (fail)
                go_wp2
                go_roundw
                case rel => exact ⟨k + 1, ownk, by omega, by omega, by go_num, Hqk.out.1.drewN _, by rw [Hs.out, ← Hcsl.out]; exact Hqk.out.2.drewN _⟩
                case measure => simp [intOf]; omega
              | true =>
                have heq : ∀ W : World, (binOp .eql 47 (.agg #[.string items[i].1.1, .string items[i].1.2.1, .string items[i].1.2.2.1, .string items[i].1.2.2.2]) (.agg #[.string items[k].1.1, .string items[k].1.2.1, .string items[k].1.2.2.1, .string items[k].1.2.2.2])).run Try.prog W = .ok (.bool true) W := fun W => by rw [eqKey, hq]
                have Hs := Lib.hid (show pairsAt items i (k + 1) = pairsAt items i k ++ [pairCl i k] by
                  have h5 : kAt items i = kAt items k := by
                    have h6 := of_decide_eq_true hq
                    unfold kAt; rw [keyAt_eq (by simpa using hilt), keyAt_eq (by simpa using hklt)]; simpa using h6
                  rw [Hsucc.out]; simp [h5, show i < k by omega])
                clear hq
                go_wp2
                go_quiet (fail)
                have hqd : EncEnv w (wr.drewN nq) (.slice (some ⟨bi, offi, none⟩) items.length c0) (.slice (some ⟨bw, offw, none⟩) wss.length c1) r ∧ QAt (wr.drewN nq) (qB w) (qG w) items.length ownk csl := ⟨Hqk.out.1.drewN _, Hqk.out.2.drewN _⟩
                generalize wr.drewN nq = wd at hqd ⊢
                clear hi0 hi1 hi2 hi3 hk0 hk1 hk2 hk3 hy0 heq Hqk
                obtain ⟨Am, km, xs, g1, g2, g3, g4, g5, g6, g7, g8⟩ := hqd.2.open_
                have Hqd := Lib.hid hqd
                have HG := Lib.hid (And.intro g1 (And.intro g4 (And.intro g5 (And.intro g6 g7))))
                have hltr := hqd.2.lt.1
                have hBG : qB w ≤ qG w := by simp only [qG, qB]; omega
                have hBr : qB w ≤ wd.heap.size := by omega
                have Hown := Lib.hid hqd.2.lt.2
                clear hqd g1 g4 g5 g6 g7 g8
                have Hal := Lib.hid (Hqd.out.2.keep (below_alloc wd (.cells #[.int .i64 (-((i : Int) + 1)), .int .i64 (-((k : Int) + 1))] 3)))
                go_wp2_with (
                  at_builtin
                  refine wpList_push rfl _ _ _ rfl eRow (v := .slice Am csl.length km) rfl ((HG.out.2.1.alloc _).alloc _) (wd.heap.size + 1) (.slice (some ⟨wd.heap.size, 0, none⟩) 2 2) rfl (by simp [go_sem]) rfl (by omega) (Nat.le_trans hBr (by simp; omega)) ?_
                  intro v1 w3 hown1 hg1 hat1
                  obtain ⟨A1, k1, rfl⟩ := own_shape hown1
                  have hh1 : (wd.alloc (.cells #[.int .i64 (-((i : Int) + 1)), .int .i64 (-((k : Int) + 1))] 3)).heap[qG w]? = _ := (Below.heap_alloc wd _ _ hltr).trans HG.out.1
                  have hpush := QAt.push (c := pairCl i k) hBG Hal.out hh1 HG.out.2.2.1 HG.out.2.2.2.1 (fun j hj u hu => RInts.stable _ _ _ _ _ _ (HG.out.2.2.2.2 j hj u hu) ((ag_alloc wd _).sub fun b hb => hb.2.1) (fun b hb => ⟨hb.1, Nat.lt_trans hb.2.1 (by simp), hb.2.2⟩)) (lit_ints wd (pairCl i k) rfl rfl ⟨hBr, by simp, by omega, fun e => by have := Hown.out _ e.symm; omega⟩ (by simp [pairCl])) hown1 hg1 hat1
                  have hgb := (hg1.block (qG w) (Nat.lt_trans hltr (by simp; omega)) (by rw [HG.out.2.2.1]; exact fun e => (Hown.out _ e.symm).2.2 rfl)).trans ((Below.heap_alloc _ _ _ (Nat.lt_trans hltr (by simp))).trans hh1)
                  have hd1 : w3.cell? ⟨qG w, 1, none⟩ = some (.slice Am csl.length km) := by rw [cell_of_row _ _ 1 _ _ _ hgb]; rfl
                  have hfz1 : w3.frozen? ⟨qG w, 1, none⟩ = false := frozen_of_row w3 (qG w) 1 _ _ hgb
                  have Hpush := Lib.hid hpush
                  clear hgb hpush hh1)
                go_roundw
                case rel => exact ⟨k + 1, _, by omega, by omega, by go_num, (Hqd.out.1.keep ((below_alloc wd _).mono hBr)).keep Hpush.out.2.1, by
                  have h5 := Hpush.out.1
                  rw [Hs.out, ← List.append_assoc, ← Hcsl.out]; exact h5⟩
                case measure => simp [intOf]; omega
            · obtain rfl : k = items.length := by omega
              go_wp2
              go_roundw
              case rel => exact ⟨i + 1, ownk, by omega, by go_num, hqk.out.1, by have h5 := hqk.out.2; rw [List.append_assoc, ← pairsTo_succ] at h5; exact h5⟩
              case measure => simp [intOf]; omega
        · obtain rfl : i = items.length := by omega
          have Hqi := Lib.hid (show EncEnv w wr (.slice (some ⟨bi, offi, none⟩) items.length c0) (.slice (some ⟨bw, offw, none⟩) wss.length c1) r ∧ QAt wr (qB w) (qG w) items.length own (allCls items wss r) from hqi.out)
          clear hqi
          obtain ⟨Am, km, xs, g1, g2, g3, g4, g5, g6, g7, g8⟩ := Hqi.out.2.open_
          have Hrd := Lib.hid g8
          have hz := Hqi.out.1
          have hlen9 : ∀ c ∈ allCls items wss r, c.length ≤ 41 := by
            intro c hc
            rcases mem_allCls hc with rfl | ⟨k, hk, w, hw, rfl⟩ | ⟨i, k, hik, hk, _, rfl⟩
            · simp
            · have := (Hl.out _ (List.getElem_mem hk)).2 w hw
              simp [wantCl]; omega
            · simp [pairCl]
          have Hlen9 := Lib.hid hlen9
          clear g1 g4 g5 g6 g7 hlen9
          obtain ⟨A8, c8, e8, hm8, hat8⟩ := g8.open_
          simp only [Value.slice.injEq, true_and] at e8
          obtain ⟨e8a, e8c⟩ := e8
          subst e8a e8c
          have Hat8 := Lib.hid hat8
          have hr0c := hz.2.2.1
          have hr1c := hz.2.2.2.1
          have hrf0 := hz.2.2.2.2.1
          have hrf1 := hz.2.2.2.2.2.1
          have Hbz := Lib.hid hz.2.2.2.2.2.2
          have hqg : w.heap.size + 1 < wr.heap.size := by have := Hqi.out.2.lt.1; simp only [qG] at this; omega
          clear hat8 g8 hz
          go_wp2
          go_loop [108] (fun sv => ∃ k : Nat, k ≤ (allCls items wss r).length ∧ sv = .int .i64 k) (fun sv => (allCls items wss r).length - (intOf sv).toNat)
          case atStart => exact ⟨0, Nat.zero_le _, rfl⟩
          case round =>
            obtain ⟨k, hkle, rfl⟩ := hrel
            by_cases hklt : k < (allCls items wss r).length
            · obtain ⟨bk, offk, uk, ek, hbk, hcellk, huk⟩ := Hat8.out.at_ RInts.stable (Ag.refl _ _) hklt
              obtain ⟨Ak, ck, rfl, _, _⟩ := huk
              have hsm := Hlen9.out _ (List.getElem_mem hklt)
              subst ek
              go_wp2
              go_round
              case rel => exact ⟨k + 1, by omega, by go_num⟩
              case measure => simp [intOf]; omega
            · obtain rfl : k = (allCls items wss r).length := by omega
              go_wp2
              go_region
              all_goals (
                go_wp2
                refine bodyPost_ret (v := .tuple #[.agg #[.int .i64 (items.length : Int), .slice Am (allCls items wss r).length km], .bool (decide ((allCls items wss r).length ≤ 16384))]) (by simp [results, Try.results14, go_sem, hr0c, hr1c]; omega) rfl ?_
                refine ⟨_, rfl, RIntss.stable _ _ _ _ _ _ Hrd.out (fun b hb => ?_) (fun b hb => ?_), ((Hbz.out.setCell (p := ⟨w.heap.size + 1, 0, none⟩) (by simp) _).setCell (p := ⟨w.heap.size + 1, 1, none⟩) (by simp) _).drew⟩
                · have hne : b ≠ w.heap.size + 1 := by have := hb.1; simp only [qB] at this; omega
                  exact (Below.heap_setCell _ ⟨w.heap.size + 1, 1, none⟩ _ _ hne).trans (Below.heap_setCell _ ⟨w.heap.size + 1, 0, none⟩ _ _ hne)
                · have h9 : b < wr.heap.size := hb.2
                  show b < _
                  simpa using h9)
end Go.Proofs.Ytlaihjhkghbfkaa
