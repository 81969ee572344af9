/- What is taken of a deal by truths: the program's Taken. -/
import Derived.Test.YtlaihjhkghbfkaaCnfW7
import Derived.Laws.EntriesVeiled
namespace Go.Proofs.Ytlaihjhkghbfkaa
open Go.RowKit

theorem eInt : Elem1 Try.prog 39 3 8 := elem1_mk (z := .int .i64 0) Try.underlying39 (by kernel_rfl) (by omega) rfl
/-- What Taken answers. -/
def TakenIs (n0 : Nat) (wss : List (List (List Int))) (r : Int) (t : List Bool) (l : List Int) : Prop :=
  (mayN n0 r wss = 0 → ∃ met, IsMet n0 wss t r.toNat met ∧ l = trues met) ∧ (mayN n0 r wss ≠ 0 → l = [])
theorem TakenIs.unique {n0 : Nat} {wss : List (List (List Int))} {r : Int} {t : List Bool} {a b : List Int} (h : TakenIs n0 wss r t a) (k : TakenIs n0 wss r t b) : a = b := by
  by_cases h0 : mayN n0 r wss = 0
  · obtain ⟨m1, h1, rfl⟩ := h.1 h0
    obtain ⟨m2, h2, rfl⟩ := k.1 h0
    rw [h1.unique h2]
  · rw [h.2 h0, k.2 h0]
theorem errOf_ne {n0 : Nat} {r : Int} {wss : List (List (List Int))} (h : mayN n0 r wss ≠ 0) : (errOf (mayN n0 r wss) != (0 : Int)) = true := by
  have : mayN n0 r wss ≤ 2 := by unfold mayN; (repeat' split) <;> omega
  simp only [errOf, bne_iff_ne]; split
  · omega
  · split <;> omega
def TakenPost (n0 : Nat) (wss : List (List (List Int))) (r : Int) (t : List Bool) (w : World) (e : Ending) (w' : World) : Prop :=
  ∃ v l, e = .returned v ∧ TakenIs n0 wss r t l ∧ RInts w' (Lt w'.heap.size) v l ∧ l.length ≤ n0 ∧ Below w.heap.size w w'
theorem map_append_int (l : List Int) (k : Int) : l.map (Value.int .i64) ++ [.int .i64 k] = (l ++ [k]).map (Value.int .i64) := by simp

abbrev takenW (w1 : World) (n0 b2 b3 : Nat) : World :=
  ((w1.alloc (.cells (madeCells #[Value.bool false] n0) 4)).alloc (.cells #[.slice (some ⟨w1.heap.size, 0, none⟩) n0 n0] 40)).alloc
    (.cells #[.func (.func 24) #[] #[.pointer (some ⟨w1.heap.size + 1, 0, none⟩), .pointer (some ⟨b3, 0, none⟩), .pointer (some ⟨b2, 0, none⟩), .pointer (some ⟨w1.heap.size + 1 + 1, 0, none⟩)]] 60)
theorem taken_start {w1 : World} {n0 b2 b3 c1 c3 : Nat} {A1 A3 : Option Addr} {wss : List (List (List Int))} {t : List Bool} (h2 : w1.cell? ⟨b2, 1, none⟩ = some (.slice A1 wss.length c1)) (h3 : w1.cell? ⟨b3, 0, none⟩ = some (.slice A3 t.length c3))
    (hb2 : b2 < w1.heap.size) (hb3 : b3 < w1.heap.size) (hn : n0 ≤ 1024) {B : Nat} (hB : B ≤ w1.heap.size) (ht : RAt RBool w1 (Lt B) A3 t) (hw : RAt RIntss w1 (Lt B) A1 wss) :
    MeetEnv w1.heap.size b2 b3 (w1.heap.size + 1) (w1.heap.size + 1 + 1) n0 c1 c3 A1 A3 wss t (takenW w1 n0 b2 b3) ∧ MetRow (takenW w1 n0 b2 b3) w1.heap.size w1.heap.size n0 (List.replicate n0 false) ∧ Below w1.heap.size w1 (takenW w1 n0 b2 b3) := by
  have hbel : Below w1.heap.size w1 (takenW w1 n0 b2 b3) := (((below_alloc _ _).alloc (by simp) _).alloc (by simp; omega) _)
  have hag : Ag (Lt B) w1 (takenW w1 n0 b2 b3) := (ag_of_below hbel).sub fun b (h : b < B) => (by omega : b < _)
  refine ⟨⟨?_, ?_, ?_, ?_, ht.agree RBool.stable hag fun b (h : b < B) => (by omega), hw.agree RIntss.stable hag fun b (h : b < B) => (by omega), by omega, by omega, by omega, by omega⟩, ?_, hbel⟩
  · simp [go_sem]
  · exact (hbel.cell (p := ⟨b3, 0, none⟩) hb3).trans h3
  · exact (hbel.cell (p := ⟨b2, 1, none⟩) hb2).trans h2
  · simp [go_sem]
  · unfold MetRow
    have := own_made w1 4 (.bool false) n0 (by omega)
    rw [List.map_replicate]
    exact (this.alloc _).alloc _

set_option maxRecDepth 100000 in
set_option maxHeartbeats 2000000 in
theorem Taken_any (s0 s1 s2 : Value) (r : Int) (items : List ItemD) (wss : List (List (List Int))) (t : List Bool) (w : World) (h0 : RItems w (Lt w.heap.size) s0 items)
    (hw : RIntsss w (Lt w.heap.size) s1 wss) (ht : RBools w (Lt w.heap.size) s2 t) :
    Calls Try.prog 15 #[.agg #[s0, s1, .int .i64 r], s2] w (TakenPost items.length wss r t w) := by
  have Hw := Lib.hid hw
  obtain ⟨A0, c0, rfl, hm0, hat0⟩ := h0.open_
  obtain ⟨A1, c1, rfl, hm1, hat1⟩ := hw.open_
  obtain ⟨A2, c2, rfl, hm2, hat2⟩ := ht.open_
  clear h0 hw ht hat0
  have Hat1 := Lib.hid hat1; clear hat1
  have Hat2 := Lib.hid hat2; clear hat2
  by_cases hmay : mayN items.length r wss = 0
  case neg =>
    have hmay' := errOf_ne hmay
    have Hmay := Lib.hid hmay
    clear hmay
    go_enter Try.func15, Try.ntmps15
    go_wp2_with (go_at_call 11; refine (May_any _ _ _ _ _ _ _ (RIntsss.stable.up Hw.out ((below_alloc _ _).alloc (by simp) _))).mono ?_; rintro e w1 ⟨rfl, hb⟩)
    go_ret
    exact ⟨_, [], rfl, ⟨fun h => absurd h Hmay.out, fun _ => rfl⟩, RSl.nil_ _ _ _, Nat.zero_le _, ((below_alloc _ _).alloc (by simp) _).trans (hb.mono (by simp; omega))⟩
  case pos =>
  obtain ⟨hn0, hr, hlen, hbad⟩ := mayN_zero hmay
  obtain ⟨hr0, hr1⟩ := isItemB_iff.1 hr
  have hv := validW_of hbad
  have Hmay := Lib.hid hmay
  have hmay' : errOf (mayN items.length r wss) = 0 := by rw [hmay]; rfl
  have Hmay' := Lib.hid hmay'
  clear hmay hmay' hbad hr
  have Hlen := Lib.hid hlen; clear hlen
  have Hv := Lib.hid hv; clear hv
  obtain ⟨rn, hrn⟩ := Int.eq_ofNat_of_zero_le hr0
  subst hrn
  have hmk := run_makeN (P := Try.prog) (t := 40) (e := 4) (bytes := 1) (z := .bool false) Try.underlying40 (by kernel_rfl) (by omega) rfl items.length (by omega)
  go_enter Try.func15, Try.ntmps15
  go_wp2_with (first
      | (go_at_call 11; refine (May_any _ _ _ _ _ _ _ (RIntsss.stable.up Hw.out ((below_alloc _ _).alloc (by simp) _))).mono ?_; rintro e w1 ⟨rfl, hb⟩; rw [Hmay'.out]; obtain ⟨hx0, hx1, hx2, hx3⟩ := box3_1 hb; have hsz : w.heap.size + 1 < w1.heap.size := (by have := hb.size; simp at this; omega); have hsz0 : w.heap.size < w1.heap.size := (by omega); have hsz00 : w.heap.size < w1.heap.size + 1 := (by omega); have hsz01 : w.heap.size < w1.heap.size + 1 + 1 := (by omega))
      | (go_at_call 24
         have hbw : Below w.heap.size w w1 := ((below_alloc _ _).alloc (by simp) _).trans (hb.mono (by simp; omega))
         have hst := taken_start (n0 := items.length) hx1 hx3 hsz0 hsz hn0 (Nat.le_of_lt hsz0) (Hat2.out.agree RBool.stable (ag_of_below hbw) fun _ h => h) (Hat1.out.agree RIntss.stable (ag_of_below hbw) fun _ h => h)
         refine (meet_any _ _ _ _ _ _ _ _ _ _ _ wss t rn Hlen.out Hv.out hn0 hm2 _ (List.replicate items.length false) rn _ (Nat.lt_succ_self _) (by simp) (by omega) (fun h => .root h) hst.1 hst.2.1).mono ?_
         rintro e w2 ⟨rfl, met, hstp, hroot, hrow, hag, hbel, hsz2⟩
         have hml : met.length = items.length := by simpa using hstp.len
         have Hmet := Lib.hid (isMet_of_stp Hv.out (by omega) hstp hroot)
         have he5 := (hag.cell (p := ⟨w1.heap.size + 1, 0, none⟩) (by simp)).trans hst.1.e5
         have Hrow := Lib.hid hrow
         have Hbw2 := Lib.hid (hbw.trans ((hst.2.2.trans hbel).mono (Nat.le_of_lt hsz0)))
         have Hml := Lib.hid hml
         clear hst hstp hroot hrow hag hbel hsz2 hbw hml))
  go_loopw [23, 4] (fun sv out wr => ∃ k : Nat, k ≤ items.length ∧ sv = .int .i64 k ∧ Below w2.heap.size w2 wr ∧ wr.ownsRow w2.heap.size 3 1 out (trues (met.take k)).length ((trues (met.take k)).map (Value.int .i64))) (fun sv _ _ => items.length - (intOf sv).toNat)
  case atStart => exact ⟨0, Nat.zero_le _, rfl, Below.refl _ _, by simpa [trues, truesFrom] using World.ownsRow_nil _ _ _ _⟩
  case round =>
    obtain ⟨k, hkle, rfl, hbel, hown⟩ := hrel
    have Hbel := Lib.hid hbel
    have Hown := Lib.hid hown
    by_cases hklt : k < items.length
    · have hsz3 : w1.heap.size < w2.heap.size := by
        have := (Hrow.out).lt w1.heap.size rfl
        omega
      have hcell := (hbel.cell (p := ⟨w1.heap.size, k, none⟩) hsz3).trans (Hrow.out.cell Hml.out hklt)
      have hkm : k < met.length := by rw [Hml.out]; exact hklt
      have Hs := Lib.hid (trues_succ hkm)
      have htl : (trues (met.take k)).length ≤ k := by have := trues_length_le (met.take k); simp at this; omega
      have hmk : mB met k = met[k] := by simp [mB, List.getD, hkm]
      clear hbel hown
      cases hmb : mB met k with
      | true =>
        rw [hmb] at hcell
        have Hs' := Lib.hid (show trues (met.take (k + 1)) = trues (met.take k) ++ [(k : Int)] by rw [Hs.out, ← hmk, hmb]; rfl)
        clear hmk hmb
        go_wp2_with (at_builtin; refine wpList_push rfl _ _ _ rfl eInt rfl (Hown.out.alloc _) wr.heap.size (.int .i64 k) rfl (by simp [go_sem]) rfl (by omega) (by have := Hbel.out.size; simp; omega) ?_; intro v1 w3 hown1 hg1 hat1)
        go_roundw
        case rel =>
          refine ⟨k + 1, by omega, by go_num, ?_, ?_⟩
          · exact (Hbel.out.alloc Hbel.out.size _).grown hg1 (by have := Hbel.out.size; simp; omega) (fun i hi => (Hown.out.lt i hi).1)
          · rw [Hs'.out, ← map_append_int, List.length_append]; exact hown1
        case measure => simp [intOf]; omega
      | false =>
        rw [hmb] at hcell
        have Hs' := Lib.hid (show trues (met.take (k + 1)) = trues (met.take k) by rw [Hs.out, ← hmk, hmb]; simp)
        clear hmk hmb
        go_wp2
        go_roundw
        case rel => exact ⟨k + 1, by omega, by go_num, Hbel.out, by rw [Hs'.out]; exact Hown.out⟩
        case measure => simp [intOf]; omega
    · obtain rfl : k = items.length := by omega
      have hfull : met.take items.length = met := by rw [← Hml.out, List.take_length]
      have hn := trues_length_le met
      go_wp2
      go_ret
      refine ⟨_, trues met, rfl, ⟨fun _ => ⟨met, Hmet.out, rfl⟩, fun h => absurd Hmay.out h⟩, ?_, by rw [Hml.out] at hn; exact hn, Hbw2.out.trans (Hbel.out.mono (by have := Hbw2.out.size; omega))⟩
      rw [hfull] at hown
      exact ints_of_own hown fun g hg => (hown.lt g hg).2
end Go.Proofs.Ytlaihjhkghbfkaa
