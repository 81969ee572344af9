/- The document's example is as the document says. -/
import Derived.Test.YtlaihjhkghbfkaaCnfL1
namespace Go.Proofs.Ytlaihjhkghbfkaa
open Go.RowKit

def exCls : List (List Int) := [[1], [-1, 2, 3], [-2, -3]]
theorem encR_ex : encR exItems exWants 0 = (3, exCls, 0) := by decide +kernel
theorem right_ex1 : rightB exItems exWants 0 [0, 1, 2] = false := by decide +kernel
theorem right_ex2 : rightB exItems exWants 0 [0, 1] = true := by decide +kernel
theorem may_ex : mayN exItems.length 0 exWants = 0 := by decide +kernel
theorem light_ex : lightW exWants := by
  intro ws hws
  simp only [exWants, List.mem_cons, List.not_mem_nil, or_false] at hws
  rcases hws with rfl | rfl | rfl <;> simp
theorem isMet_ex : IsMet 3 exWants [true, true, true] 0 [true, true, true] := by
  have h0 : Rch exWants [true, true, true] 0 0 := .root rfl
  have h1 : Rch exWants [true, true, true] 0 1 := .step (w := [1, 2]) h0 (by decide) (by simp [exWants]) (by simp) rfl
  have h2 : Rch exWants [true, true, true] 0 2 := .step (w := [1, 2]) h0 (by decide) (by simp [exWants]) (by simp) rfl
  refine ⟨rfl, fun x hx => ?_⟩
  match x, hx with
  | 0, _ => exact ⟨fun _ => h0, fun _ => rfl⟩
  | 1, _ => exact ⟨fun _ => h1, fun _ => rfl⟩
  | 2, _ => exact ⟨fun _ => h2, fun _ => rfl⟩
theorem taken_ex {l : List Int} (h : TakenIs exItems.length exWants 0 [true, true, true] l) : l = [0, 1, 2] := by
  obtain ⟨met, hm, rfl⟩ := h.1 may_ex
  rw [hm.unique isMet_ex]; rfl
theorem lit_bools (W : World) (l : List Bool) {S : Nat → Prop} {b n : Nat} (hb : b = W.heap.size) (hnl : n = l.length) (hS : S b) (hn : n ≤ 1000000) : RBools (W.alloc (.cells (l.map Value.bool).toArray 4)) S (.slice (some ⟨b, 0, none⟩) n n) l := by
  subst hb; subst hnl
  have := World.ownsRow_lit (base := W.heap.size) (e := 4) (size := 1) W (l.map Value.bool).toArray l.length (Nat.le_refl _) (by unfold maxLen; omega) (by simp)
  exact bools_of_own this fun g hg => by simp [Value.ownBlock] at hg; exact hg ▸ hS

set_option maxRecDepth 100000 in
set_option maxHeartbeats 4000000 in
theorem lives_any (w : World) : Calls Try.prog 10 #[] w fun e w' => e = .returned (.bool true) ∧ Below w.heap.size w w' := by
  have tok1 : True := trivial
  go_enter Try.func10, Try.ntmps10
  go_wp2_with (first
    | (go_at_call 20
       refine (deal_any _).mono ?_
       rintro e w1 ⟨s0, s1, rfl, h0, h1, hb1⟩
       have H0 := Lib.hid h0; have H1 := Lib.hid h1; have Hb1 := Lib.hid hb1
       obtain ⟨A0, c0, rfl, _, _⟩ := h0
       obtain ⟨A1, c1, rfl, _, _⟩ := h1
       clear hb1)
    | (go_at_call 13
       refine (Encode_any _ _ 0 exItems exWants _ (RItems.stable.up H0.out (below_alloc _ _)) (RIntsss.stable.up H1.out (below_alloc _ _)) light_ex).mono ?_
       intro e w2 hp
       rw [EncodePost, encR_ex] at hp
       obtain ⟨s, rfl, hs, hb2⟩ := hp
       obtain ⟨hd0, hd1, hd2⟩ := box3 hb2
       have Hb2 := Lib.hid hb2
       have hsz2 : w1.heap.size < w2.heap.size := (by have := hb2.size; simp at this; omega)
       obtain ⟨A2, c2, rfl, _, hat⟩ := hs.open_
       obtain ⟨bq, oq, uq1, rfl, hbq, hq1, hu1⟩ := hat.lt_ (k := 1) (by decide)
       obtain ⟨uq2, hq2, hu2⟩ := hat.again (k := 2) (by decide)
       obtain ⟨A3, c3, rfl, _, hat3⟩ := hu1.open_
       obtain ⟨A4, c4, rfl, _, hat4⟩ := hu2.open_
       obtain ⟨b3, o3, u3, rfl, hb3, hq3, hu3⟩ := hat3.lt_ (k := 0) (by decide)
       obtain ⟨b4, o4, u4, rfl, hb4, hq4, hu4⟩ := hat4.lt_ (k := 1) (by decide)
       obtain rfl := hu3
       obtain rfl := hu4
       clear hb2 hs hat hu1 hu2 hat3 hat4)
    | (go_at_call 15
       have hbt := (((below_alloc w1 _).trans (Hb2.out.mono (by simp))).alloc (Nat.le_of_lt hsz2) (.cells #[.int .i64 3, .slice (some ⟨bq, oq, none⟩) exCls.length c2] 34)).alloc (by simp; omega) (.cells #[.bool true, .bool true, .bool true] 4)
       have Hbt := Lib.hid hbt
       clear hbt
       refine (Taken_any _ _ _ 0 exItems exWants [true, true, true] _ (RItems.stable.up H0.out Hbt.out) (RIntsss.stable.up H1.out Hbt.out) (lit_bools _ [true, true, true] (by simp) rfl (by show _ < _; simp) (by simp))).mono ?_
       rintro e w3 ⟨v, l, rfl, htk, hv, hl, hb3'⟩
       obtain rfl := taken_ex htk
       have Hv := Lib.hid hv
       obtain ⟨At, ct, rfl, _, _⟩ := hv
       have hw3 : Below w2.heap.size w2 w3 := ((below_alloc w2 _).alloc (by simp) _).trans (hb3'.mono (by simp; omega))
       have Hb13 := Lib.hid (Hbt.out.trans (hb3'.mono (by simp; omega)))
       have hx0 := (hw3.cell (p := ⟨w1.heap.size, 0, none⟩) hsz2).trans hd0
       have hx1 := (hw3.cell (p := ⟨w1.heap.size, 1, none⟩) hsz2).trans hd1
       have hx2 := (hw3.cell (p := ⟨w1.heap.size, 2, none⟩) hsz2).trans hd2
       have hy1 : w3.cell? ⟨w2.heap.size, 1, none⟩ = some (.slice (some ⟨bq, oq, none⟩) exCls.length c2) := (hb3'.cell (p := ⟨w2.heap.size, 1, none⟩) (by simp; omega)).trans (by simp [go_sem])
       have hz1 := (hw3.cell (p := ⟨bq, oq + 1, none⟩) hbq).trans hq1
       have hz2 := (hw3.cell (p := ⟨bq, oq + 2, none⟩) hbq).trans hq2
       have hz3 := (hw3.cell (p := ⟨b3, o3 + 0, none⟩) hb3).trans hq3
       have hz4 := (hw3.cell (p := ⟨b4, o4 + 1, none⟩) hb4).trans hq4
       have hsz3 : w1.heap.size < w3.heap.size := Nat.lt_of_lt_of_le hsz2 hw3.size
       have Hw3 := Lib.hid hw3
       simp only [Nat.add_zero] at hz3
       clear hd0 hd1 hd2 hq1 hq2 hq3 hq4 hw3 htk hl hb3')
    | (go_at_call 17
       have _t := tok1
       refine (Right_any _ _ _ 0 exItems exWants [0, 1, 2] _ (RItems.stable.up H0.out Hb13.out) (RIntsss.stable.up H1.out Hb13.out) Hv.out).mono ?_
       rintro e w4 ⟨rfl, hb4'⟩
       rw [right_ex1]
       have hv0 := (hb4'.cell (p := ⟨w1.heap.size, 0, none⟩) hsz3).trans hx0
       have hv1 := (hb4'.cell (p := ⟨w1.heap.size, 1, none⟩) hsz3).trans hx1
       have hv2 := (hb4'.cell (p := ⟨w1.heap.size, 2, none⟩) hsz3).trans hx2
       have Hb14 := Lib.hid (Hb13.out.trans (hb4'.mono (Nat.le_of_lt hsz3)))
       clear tok1 _t hb4' hx0 hx1 hx2 hy1 hz1 hz2 hz3 hz4)
    | (go_at_call 17
       refine (Right_any _ _ _ 0 exItems exWants [0, 1] _ (RItems.stable.up H0.out (Hb14.out.alloc Hb14.out.size _)) (RIntsss.stable.up H1.out (Hb14.out.alloc Hb14.out.size _)) (lit_ints _ [0, 1] rfl rfl (by show _ < _; simp) (by simp))).mono ?_
       rintro e w5 ⟨rfl, hb5'⟩
       rw [right_ex2]
       have Hb15 := Lib.hid ((Hb14.out.alloc Hb14.out.size _).trans (hb5'.mono (by have := Hb14.out.size; simp; omega)))
       clear hb5'))
  go_ret
  exact ⟨rfl, Hb1.out.trans (Hb15.out.mono Hb1.out.size)⟩
end Go.Proofs.Ytlaihjhkghbfkaa
