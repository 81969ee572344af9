/- groups: of each node its group's number. -/
import Derived.Test.YtjmenkjmghmkpaaGrF3
import Derived.Test.YtjmenkjmghmkpaaGrW9
import Derived.Test.YtjmenkjmghmkpaaRegFresh
import Derived.Deep.DeepCutAuto
namespace Go.Proofs.Ytjmenkjmghmkpaa
open Go.RowKit
open G22

def makesA (n : Nat) (s : Value) (f : Nat → Value) : Act := ⟨#[s, undef, .slice none 0 0, .int .i64 0, .int .i64 (n : Int), undef, undef, s, .int .i64 (n : Int), s, .int .i64 (n : Int), f 2, .int .i64 (n : Int), f 4, .int .i64 (n : Int), f 6, .int .i64 (n : Int), f 8, .int .i64 (n : Int), f 10, undef, undef, undef, undef, undef, undef, undef, undef, undef, undef, undef, undef, undef, undef, undef, undef, undef, undef, undef, undef, undef, undef, undef, undef, undef, undef], []⟩
def makesL (m : Nat → Bool) : Array Bool := #[true, true, m 2, true, m 4, true, m 6, true, m 8, true, m 10, false, false, false]
def makesV (n : Nat) (_ : Nat) (b : Nat) : Value := .slice (some ⟨b, 0, none⟩) n n
def makesO (n : Nat) (i : Nat) : Obj := if i = 8 then .cells (madeCells #[.bool false] n) 4 else .cells (madeCells #[.int .i64 0] n) 3
theorem vblk_obj {w : World} {b n : Nat} {t : TypeId} {z : Value} (h : w.heap[b]? = some (.cells (madeCells #[z] n) t)) : VBlk w b t (List.replicate n z) := by
  unfold VBlk
  rw [h, ← toList_madeCells_one]
theorem fin_start {w w1 : World} {blk : Nat → Nat} {N : Nat} {gv : Value} (h : Fresh [2, 4, 6, 8, 10] (makesO N) w (fun _ => true) blk w1) :
    FinAt (w1.alloc (.cells #[gv, slN (blk 2) N, slN (blk 4) N, slN (blk 6) N, slN (blk 8) N, .slice none 0 0, .slice none 0 0, .int .i64 0, slN (blk 10) N, .int .i64 0] 49)) w1.heap.size (blk 2) (blk 4) (blk 6) (blk 8) (blk 10) (w1.heap.size + 1) N gv (.slice none 0 0) (.slice none 0 0) (startT N)
      ∧ From w.heap.size w1.heap.size (blk 2) (blk 4) (blk 6) (blk 8) (blk 10) (w1.heap.size + 1) := by
  obtain ⟨a2, b2, c2⟩ := h.at_ 2 (by simp) rfl
  obtain ⟨a4, b4, c4⟩ := h.at_ 4 (by simp) rfl
  obtain ⟨a6, b6, c6⟩ := h.at_ 6 (by simp) rfl
  obtain ⟨a8, b8, c8⟩ := h.at_ 8 (by simp) rfl
  obtain ⟨a10, b10, c10⟩ := h.at_ 10 (by simp) rfl
  have hs := h.size
  have hk : ∀ b, b < w1.heap.size → ∀ ob, (w1.alloc ob).heap[b]? = w1.heap[b]? := fun b hb ob => by show (w1.heap.push ob)[b]? = _; rw [Array.getElem?_push, if_neg (by omega)]
  have hz : ∀ n : Nat, nVs (List.replicate n 0) = List.replicate n (.int .i64 0) := fun n => by simp [nVs, natV]
  have hb : ∀ n : Nat, bVs (List.replicate n false) = List.replicate n (.bool false) := fun n => by simp [bVs]
  refine ⟨⟨?_, ?_, ?_, ?_, ?_, ?_, ?_, ?_, .inl rfl, ⟨by omega, by omega, by omega, by omega, by omega, by omega, by simp⟩, ?_⟩, ⟨by omega, by omega, by omega, by omega, by omega, by omega, by omega⟩⟩
  · show (w1.heap.push _)[w1.heap.size]? = _
    rw [Array.getElem?_push, if_pos rfl]
    rfl
  · exact (hk _ b2 _).trans (by show VBlk w1 _ _ (nVs (List.replicate N 0)); rw [hz]; exact vblk_obj c2)
  · exact (hk _ b4 _).trans (by show VBlk w1 _ _ (nVs (List.replicate N 0)); rw [hz]; exact vblk_obj c4)
  · exact (hk _ b6 _).trans (by show VBlk w1 _ _ (nVs (List.replicate N 0)); rw [hz]; exact vblk_obj c6)
  · exact (hk _ b8 _).trans (by show VBlk w1 _ _ (bVs (List.replicate N false)); rw [hb]; exact vblk_obj c8)
  · exact (hk _ b10 _).trans (by show VBlk w1 _ _ (nVs (List.replicate N 0)); rw [hz]; exact vblk_obj c10)
  · simpa [startT, nVs] using World.ownsRow_nil _ _ _ _
  · simpa [startT, nVs] using World.ownsRow_nil _ _ _ _
  · have hn := fun i hi j hj hne => h.ne i hi j hj rfl rfl hne
    exact ⟨by omega, by omega, by omega, by omega, by omega, hn 2 (by simp) 4 (by simp) (by simp), hn 2 (by simp) 6 (by simp) (by simp), hn 2 (by simp) 8 (by simp) (by simp), hn 2 (by simp) 10 (by simp) (by simp), hn 4 (by simp) 6 (by simp) (by simp), hn 4 (by simp) 8 (by simp) (by simp), hn 4 (by simp) 10 (by simp) (by simp), hn 6 (by simp) 8 (by simp) (by simp), hn 6 (by simp) 10 (by simp) (by simp), hn 8 (by simp) 10 (by simp) (by simp)⟩
def NumsPost (G : Gr) (w : World) (e : Ending) (w' : World) : Prop :=
  ∃ grp count bg, e = .returned (.tuple #[slN bg G.length, .int .i64 (count : Nat)]) ∧ Nums G grp count ∧ VBlk w' bg 3 (nVs grp) ∧ w.heap.size ≤ bg ∧ Below w.heap.size w w'
theorem Fresh.below {I : List Nat} {o : Nat → Obj} {w0 w : World} {m : Nat → Bool} {blk : Nat → Nat} (h : Fresh I o w0.drew m blk w) : Below w0.heap.size w0 w :=
  ⟨h.env.1, h.env.2.1, h.env.2.2, h.size, h.keep⟩
set_option maxRecDepth 100000 in
set_option maxHeartbeats 4000000 in
theorem groups_any (hent : EnterSaid) (G : Gr) (w : World) (Ag : Option Addr) (cg : Nat) (hg : RNatss w (Lt w.heap.size) (.slice Ag G.length cg) G) (hG : okG G) (hN : G.length ≤ 100000) (hr : ∀ a, (row G a).length ≤ 100000) :
    Calls Try.prog 33 #[.slice Ag G.length cg] w (NumsPost G w) := by
  have Hg := Lib.hid hg
  have Hr := Lib.hid hr
  clear hg hr
  go_enter Try.func33, Try.ntmps33
  go_upto_region 2 with (fail)
  refine wp_region_any (by kernel_rfl) ?_
  refine wpAny_take (i := 0) (v := .slice Ag G.length cg) rfl (by kernel_rfl) (by kernel_rfl) (by kernel_rfl) (fun _ _ _ h => h) (Or.inl ⟨by rfl, fun _ => rfl⟩) ?_
  refine wpAny_take (i := 1) (v := .int .i64 (G.length : Int)) rfl (by kernel_rfl) (by kernel_rfl) (by kernel_rfl) (fun _ _ _ h => h) (Or.inl ⟨by rfl, fun _ => rfl⟩) ?_
  refine wpAny_take (i := 3) (v := .int .i64 (G.length : Int)) rfl (by kernel_rfl) (by kernel_rfl) (by kernel_rfl) (fun _ _ _ h => h) (Or.inl ⟨by rfl, fun _ => rfl⟩) ?_
  refine wpAny_take (i := 5) (v := .int .i64 (G.length : Int)) rfl (by kernel_rfl) (by kernel_rfl) (by kernel_rfl) (fun _ _ _ h => h) (Or.inl ⟨by rfl, fun _ => rfl⟩) ?_
  refine wpAny_take (i := 7) (v := .int .i64 (G.length : Int)) rfl (by kernel_rfl) (by kernel_rfl) (by kernel_rfl) (fun _ _ _ h => h) (Or.inl ⟨by rfl, fun _ => rfl⟩) ?_
  refine wpAny_take (i := 9) (v := .int .i64 (G.length : Int)) rfl (by kernel_rfl) (by kernel_rfl) (by kernel_rfl) (fun _ _ _ h => h) (Or.inl ⟨by rfl, fun _ => rfl⟩) ?_
  refine (show wpAny _ _ _ _ 8 (makesL fun _ => false) (makesA G.length (.slice Ag G.length cg) fun _ => undef) w.drew from ?_)
  refine wpAny_fresh [2, 4, 6, 8, 10] makesL (makesA G.length (.slice Ag G.length cg)) (makesV G.length) (makesO G.length) _ _ _ ?_ ?_ ?_ ?_ ?_ (by decide) ?_
  · intro m hm
    have hm' : (m 2 && m 4 && m 6 && m 8 && m 10) = false := by
      obtain ⟨i, hi, h⟩ := hm
      simp only [List.mem_cons, List.not_mem_nil, or_false] at hi
      rcases hi with rfl | rfl | rfl | rfl | rfl <;> simp [h]
    clear hm
    unfold makesL
    simp only [List.filter]
    revert hm'
    generalize m 2 = b1, m 4 = b2, m 6 = b3, m 8 = b4, m 10 = b5
    intro hm'
    cases b1 <;> cases b2 <;> cases b3 <;> cases b4 <;> cases b5 <;> first | (exact absurd hm' (by decide)) | (clear hm'; show _ = _; kernel_rfl)
  · intro m i hi
    simp only [List.mem_cons, List.not_mem_nil, or_false] at hi
    rcases hi with rfl | rfl | rfl | rfl | rfl <;> rfl
  · intro m h
    simp only [makesL, h 2 (by simp), h 4 (by simp), h 6 (by simp), h 8 (by simp), h 10 (by simp)]
  · intro f g h
    simp only [makesA, h 2 (by simp), h 4 (by simp), h 6 (by simp), h 8 (by simp), h 10 (by simp)]
  · intro f i hi W K h
    simp only [List.mem_cons, List.not_mem_nil, or_false] at hi
    have hmk := run_makeInts G.length (by omega) W
    have hmb := run_makeBools G.length (by omega) W
    rcases hi with rfl | rfl | rfl | rfl | rfl
    all_goals
      refine wpOp_step rfl fun K' hK => ?_
      have h' := hK _ _ h
      clear h hK
      unfold makesA at *
      go_simp
      exact h'
  · intro blk w1 fuel hfu hF
    obtain ⟨fu, rfl⟩ : ∃ fu, fuel = fu + 3 := ⟨fuel - 3, by have : leftN (makesL fun _ => true) = 3 := by decide
                                                            omega⟩
    unfold makesL makesA makesV
    refine wpAny_take (i := 11) (v := ?v) rfl (by kernel_rfl) (by kernel_rfl) (by kernel_rfl) (fun _ _ _ h => h) (Or.inl ⟨by rfl, ?hy⟩) ?rest
    case hy =>
      intro w
      go_simp
      with_reducible rfl
    simp only [Act.put]
    refine wpAny_ready (rs := [12]) (by kernel_rfl) (by simp) ?_
    refine AllReady.cons rfl (fun K hK => ?_) AllReady.nil
    go_simp
    refine hK _ _ ?_
    clear hK K
    refine wpAny_take (i := 13) (v := ?v2) rfl (by kernel_rfl) (by kernel_rfl) (by kernel_rfl) (fun _ _ _ h => h) (Or.inl ⟨by rfl, ?hy2⟩) ?rest2
    case hy2 =>
      intro w
      go_simp
      with_reducible rfl
    refine wpAny_done (by kernel_rfl) ?_ _

    go_wp2
    have hst := fin_start (gv := .slice Ag G.length cg) hF
    have HF := Lib.hid hst.1
    have HB := Lib.hid (show From w.heap.size _ _ _ _ _ _ _ from hst.2)
    have HW := Lib.hid (hF.below.trans ((below_alloc w1 (.cells #[.slice Ag G.length cg, slN (blk 2) G.length, slN (blk 4) G.length, slN (blk 6) G.length, slN (blk 8) G.length, .slice none 0 0, .slice none 0 0, .int .i64 0, slN (blk 10) G.length, .int .i64 0] 49)).mono hF.size))
    clear hst hF hfu
    generalize w1.alloc (.cells #[.slice Ag G.length cg, slN (blk 2) G.length, slN (blk 4) G.length, slN (blk 6) G.length, slN (blk 8) G.length, .slice none 0 0, .slice none 0 0, .int .i64 0, slN (blk 10) G.length, .int .i64 0] 49) = W at *
    generalize w1.heap.size = F at *
    generalize blk 2 = bm, blk 4 = bl, blk 6 = bx, blk 8 = bi, blk 10 = bg at *
    obtain ⟨base, hbase⟩ : ∃ base, base = F + 1 := ⟨_, rfl⟩
    rw [← hbase] at HF HB
    clear hbase
    go_loopw [23] (fun sv wr => ∃ (i : Nat) (vo vw : Value) (s : St), i ≤ G.length ∧ sv = .int .i64 i ∧ Hid (Tj G s ∧ s.way = [] ∧ s.count + unmet s G.length ≤ G.length ∧ ∀ x, x < i → s.M x ≠ 0) ∧ Hid (FinAt wr F bm bl bx bi bg base G.length (.slice Ag G.length cg) vo vw s) ∧ Hid (Below w.heap.size w wr)) (fun sv _ => G.length - (intOf sv).toNat)
    case atStart => exact ⟨0, _, _, startT G.length, Nat.zero_le _, rfl, ⟨Tj.start, rfl, by
      have : unmet (startT G.length) G.length ≤ (List.range G.length).length := List.length_filter_le _ _
      rw [List.length_range] at this
      show 0 + _ ≤ _
      omega, fun x hx => absurd hx (Nat.not_lt_zero _)⟩, HF.out, HW.out⟩
    case round =>
      obtain ⟨w4, rfl⟩ : ∃ w0 : World, w0 = wr := ⟨_, rfl⟩
      obtain ⟨i, vo, vw, s, hile, rfl, HI, HF1, HB1⟩ := hrel
      obtain ⟨c0, c1, c2, c3, c4, c5, c6, c7, c8, c9⟩ := HF1.out.cell
      by_cases hilt : i < G.length
      · have hcm := HF1.out.met.nat (i := i) (by rw [HI.out.1.lmet]; exact hilt)
        clear c0 c2 c3 c4 c5 c6 c7 c8 c9
        by_cases hm : gN s.met i = 0
        · have hb0 : ((gN s.met i : Int) == 0) = true := by rw [hm]; rfl
          have HWk := Lib.hid (walk_any hent G w.heap.size F bm bl bx bi bg base vo vw Ag cg s i w4 HF1.out HB.out (RNatss.stable.below Hg.out HB1.out) hG hN Hr.out HI.out.1 HI.out.2.2.1 HI.out.2.1 hilt hm)
          go_wp2_with (go_at_call 37; refine HWk.out.mono ?_; rintro e w5 ⟨vo5, vw5, s5, rfl, hwi, hw5, hf5, hb5⟩)
          have HX := Lib.hid hwi
          clear hwi
          go_roundw
          case rel => exact ⟨i + 1, vo5, vw5, s5, by omega, by go_num, ⟨HX.out.tj, hw5, HX.out.cnt, fun x hx => by
            by_cases e : x = i
            · rw [e]; exact HX.out.met
            · exact HX.out.mono x (HI.out.2.2.2 x (by omega))⟩, hf5, HB1.out.trans hb5⟩
          case measure => simp [intOf]; omega
        · have hb0 : ((gN s.met i : Int) == 0) = false := by simp; omega
          go_wp2
          go_roundw
          case rel => exact ⟨i + 1, vo, vw, s, by omega, by go_num, ⟨HI.out.1, HI.out.2.1, HI.out.2.2.1, fun x hx => by
            by_cases e : x = i
            · rw [e]; exact hm
            · exact HI.out.2.2.2 x (by omega)⟩, HF1.out, HB1.out⟩
          case measure => simp [intOf]; omega
      · obtain rfl : i = G.length := by omega
        have Hn := Lib.hid (Tj.nums HI.out.1 HI.out.2.1 HI.out.2.2.2)
        clear c0 c1 c2 c3 c4 c5 c6 c7
        go_wp2
        go_quiet (fail)
        go_wp2
        go_ret2
        exact ⟨_, _, _, rfl, Hn.out, HF1.out.grp, HB.out.2.2.2.2.2.1, below_drewN HB1.out _⟩
end Go.Proofs.Ytjmenkjmghmkpaa
