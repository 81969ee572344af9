/- The reference's table in memory, and blocks that stay; its fail. -/
import Derived.Test.YtpgdioopkcfjdaaPrX12
import Derived.Test.YtpgdioopkcfjdaaPrK2
namespace Go.Proofs.Ytpgdioopkcfjdaa
open Go.RowKit

structure RefAt (KP : Nat → Prop) (KW : World) (w : World) (B X : Nat) (lv : Value) (L : PL) (dv : Value) (done : PL) (bad : Int) (nm : Bs) (ov : Value) (way : List Bs) : Prop where
  hX : w.heap[X]? = some (.cells #[lv, dv, .int .i64 bad, sv nm, .int .i64 0, ov] 30 (0, 0))
  props : RProps w (Lt B) lv L
  done : POwn w B dv done
  own : w.ownsRow B 9 1 ov way.length (way.map sv)
  lo : B ≤ X
  kept : KW.heap.size ≤ w.heap.size ∧ ∀ k, KP k → k < KW.heap.size ∧ w.heap[k]? = KW.heap[k]?
  sep : ¬ KP X ∧ (∀ g, dv.ownBlock = some g → ¬ KP g) ∧ (∀ g, ov.ownBlock = some g → ¬ KP g)
theorem kept_next {KP : Nat → Prop} {KW w w' : World} (h : KW.heap.size ≤ w.heap.size ∧ ∀ k, KP k → k < KW.heap.size ∧ w.heap[k]? = KW.heap[k]?) (hs : w.heap.size ≤ w'.heap.size) (hk : ∀ k, KP k → k < w.heap.size → w'.heap[k]? = w.heap[k]?) : KW.heap.size ≤ w'.heap.size ∧ ∀ k, KP k → k < KW.heap.size ∧ w'.heap[k]? = KW.heap[k]? :=
  ⟨Nat.le_trans h.1 hs, fun k hp => ⟨(h.2 k hp).1, (hk k hp (Nat.lt_of_lt_of_le (h.2 k hp).1 h.1)).trans (h.2 k hp).2⟩⟩
section
variable {w w' : World} {KP : Nat → Prop} {KW : World} {B X : Nat} {lv dv dv' ov ov' : Value} {L done done' : PL} {bad bad' : Int} {nm nm' : Bs} {way way' : List Bs}
theorem RefAt.lt (h : RefAt KP KW w B X lv L dv done bad nm ov way) : X < w.heap.size := (Array.getElem?_eq_some_iff.1 h.hX).1
theorem RefAt.size (h : RefAt KP KW w B X lv L dv done bad nm ov way) : B ≤ w.heap.size := by have := h.lt; have := h.lo; omega
theorem RefAt.cells (h : RefAt KP KW w B X lv L dv done bad nm ov way) : w.cell? ⟨X, 0, none⟩ = some lv ∧ w.cell? ⟨X, 1, none⟩ = some dv ∧ w.cell? ⟨X, 2, none⟩ = some (.int .i64 bad) ∧ w.cell? ⟨X, 3, none⟩ = some (sv nm) ∧ w.cell? ⟨X, 5, none⟩ = some ov ∧ (∀ i, w.frozen? ⟨X, i, none⟩ = false) :=
  ⟨cell_of_row _ _ _ _ _ (0, 0) h.hX, cell_of_row _ _ _ _ _ (0, 0) h.hX, cell_of_row _ _ _ _ _ (0, 0) h.hX, cell_of_row _ _ _ _ _ (0, 0) h.hX, cell_of_row _ _ _ _ _ (0, 0) h.hX, fun _ => frozen_of_row _ _ _ _ _ h.hX⟩
theorem RefAt.ndv (h : RefAt KP KW w B X lv L dv done bad nm ov way) {v : Value} {M : PL} (hd : POwn w B v M) {g : Nat} (hg : v.ownBlock = some g) : g ≠ X := by
  rintro rfl
  obtain ⟨c, h3⟩ := own_obj hd hg
  have := h.hX
  rw [h3] at this
  simp at this
theorem RefAt.nov (h : RefAt KP KW w B X lv L dv done bad nm ov way) {v : Value} {M : List Value} {n : Nat} (hd : w.ownsRow B 9 1 v n M) {g : Nat} (hg : v.ownBlock = some g) : g ≠ X := by
  rintro rfl
  obtain ⟨c, h3⟩ := own_obj hd hg
  have := h.hX
  rw [h3] at this
  simp at this
theorem RefAt.kp (h : RefAt KP KW w B X lv L dv done bad nm ov way) (hb : Below B w w') (k1 : Kp w w' X) (k2 : ∀ g, dv.ownBlock = some g → Kp w w' g) (k3 : ∀ g, ov.ownBlock = some g → Kp w w' g) (k4 : ∀ k, KP k → k < w.heap.size → w'.heap[k]? = w.heap[k]?) : RefAt KP KW w' B X lv L dv done bad nm ov way :=
  ⟨k1 _ h.hX, RProps.stable.agree h.props (ag_of_below hb), own_kp h.done k2, own_kp h.own k3, h.lo, kept_next h.kept hb.size k4, h.sep⟩
theorem RefAt.new (h : RefAt KP KW w B X lv L dv done bad nm ov way) (hb : Below w.heap.size w w') : RefAt KP KW w' B X lv L dv done bad nm ov way :=
  h.kp (hb.mono h.size) (kp_new hb _) (fun _ _ => kp_new hb _) (fun _ _ => kp_new hb _) (fun k _ hk => hb.block k hk)
/-- one cell of the table is set -/
theorem RefAt.put (h : RefAt KP KW w B X lv L dv done bad nm ov way) (i : Nat) (v : Value) (hc : (#[lv, dv, .int .i64 bad, sv nm, .int .i64 0, ov] : Array Value).setIfInBounds i v = #[lv, dv', .int .i64 bad', sv nm', .int .i64 0, ov'])
    (hd : POwn w B dv' done') (ho : w.ownsRow B 9 1 ov' way'.length (way'.map sv)) (hdv : dv' = dv := by rfl) (hov : ov'.ownBlock = ov.ownBlock ∨ ov'.ownBlock = none := by first | exact Or.inl rfl | exact Or.inr rfl) :
    RefAt KP KW (w.setCell ⟨X, i, none⟩ v) B X lv L dv' done' bad' nm' ov' way' ∧ Below B w (w.setCell ⟨X, i, none⟩ v) := by
  have hb : Below B w (w.setCell ⟨X, i, none⟩ v) := (ch_set w X i v).below (B := B) (fun k hk => hk ▸ h.lo) h.size
  refine ⟨⟨?_, RProps.stable.agree h.props (ag_of_below hb), own_kp hd fun g hg => (ch_set w X i v).kp (h.ndv hd hg), own_kp ho fun g hg => (ch_set w X i v).kp (h.nov ho hg), h.lo, kept_next h.kept hb.size fun k hp hk => (ch_set w X i v).block k hk (fun e => h.sep.1 (e ▸ hp)), h.sep.1, hdv ▸ h.sep.2.1, fun g hg => h.sep.2.2 g (by rcases hov with e | e <;> rw [e] at hg; exact hg; cases hg)⟩, hb⟩
  rw [← hc]
  exact heap_setCell_same w X i _ _ v h.hX
theorem RefAt.pushO (h : RefAt KP KW w B X lv L dv done bad nm ov way) {w5 : World} {t : TypeId} {n : Bs} (hown : w5.ownsRow B 9 1 ov' (way.length + 1) (way.map sv ++ [sv n])) (hg : (w.alloc (.cells #[sv n] t)).grownBy w5 ov.ownBlock) (hat : ov'.ownBlock = ov.ownBlock ∨ ov'.ownBlock = some (w.alloc (.cells #[sv n] t)).heap.size) :
    RefAt KP KW (w5.setCell ⟨X, 5, none⟩ ov') B X lv L dv done bad nm ov' (way ++ [n]) ∧ Below B w (w5.setCell ⟨X, 5, none⟩ ov') ∧ w5.heap[X]? = some (.cells #[lv, dv, .int .i64 bad, sv nm, .int .i64 0, ov] 30 (0, 0)) := by
  have hb : Below B w w5 := ((below_alloc w (.cells #[sv n] t)).mono h.size).grown hg (by simp; have := h.size; omega) (fun g hg => (World.ownsRow.lt h.own g hg).1)
  have c1 : Ch (fun k => some k = ov.ownBlock) w w5 := (ch_new (below_alloc w (.cells #[sv n] t)) _).trans (ch_grown hg)
  have h5 : w5.heap[X]? = some (.cells #[lv, dv, .int .i64 bad, sv nm, .int .i64 0, ov] 30 (0, 0)) := (c1.kp (fun e => h.nov h.own e.symm rfl)).at_ h.hX
  have hd5 : POwn w5 B dv done := own_kp h.done fun g hg => c1.kp fun e => by
    obtain ⟨c, h3⟩ := own_obj h.done hg
    obtain ⟨c', h4⟩ := own_obj h.own e.symm
    rw [h3] at h4
    simp at h4
  have hq5 := kept_next h.kept hb.size fun k hp hk => c1.block k hk fun e => h.sep.2.2 k e.symm hp
  have hsep : ∀ g, ov'.ownBlock = some g → ¬ KP g := by
    intro g hg1 hg2
    rcases hat with e | e
    · exact h.sep.2.2 g (e ▸ hg1) hg2
    · rw [hg1] at e
      have := (h.kept.2 g hg2).1
      have := h.kept.1
      simp at e
      omega
  have hs5 := (Array.getElem?_eq_some_iff.1 h5).1
  have hb2 : Below B w5 (w5.setCell ⟨X, 5, none⟩ ov') := (ch_set w5 X 5 ov').below (B := B) (fun k hk => hk ▸ h.lo) (by have := h.lo; omega)
  have hne : ∀ g, ov'.ownBlock = some g → ¬ g = X := by
    rintro g hg2 rfl
    obtain ⟨c, h3⟩ := own_obj hown hg2
    rw [h5] at h3
    simp at h3
  have hne2 : ∀ g, dv.ownBlock = some g → ¬ g = X := by
    rintro g hg2 rfl
    obtain ⟨c, h3⟩ := own_obj hd5 hg2
    rw [h5] at h3
    simp at h3
  refine ⟨⟨heap_setCell_same w5 X 5 _ _ ov' h5, RProps.stable.agree h.props (ag_of_below (hb.trans hb2)), own_kp hd5 fun g hg => (ch_set w5 X 5 ov').kp (hne2 g hg), ?_, h.lo, kept_next hq5 hb2.size fun k hp hk => (ch_set w5 X 5 ov').block k hk (fun e => h.sep.1 (e ▸ hp)), ⟨h.sep.1, h.sep.2.1, hsep⟩⟩, hb.trans hb2, h5⟩
  have := own_kp hown fun g hg => (ch_set w5 X 5 ov').kp (hne g hg)
  simpa using this
theorem RefAt.pushD (h : RefAt KP KW w B X lv L dv done bad nm ov way) {w5 : World} {t : TypeId} {p : Bs × Bs} (hown : POwn w5 B dv' (done ++ [p])) (hg : (w.alloc (.cells #[sv p.1, sv p.2] t)).grownBy w5 dv.ownBlock) (hat : dv'.ownBlock = dv.ownBlock ∨ dv'.ownBlock = some (w.alloc (.cells #[sv p.1, sv p.2] t)).heap.size) :
    RefAt KP KW (w5.setCell ⟨X, 1, none⟩ dv') B X lv L dv' (done ++ [p]) bad nm ov way ∧ Below B w (w5.setCell ⟨X, 1, none⟩ dv') ∧ w5.heap[X]? = some (.cells #[lv, dv, .int .i64 bad, sv nm, .int .i64 0, ov] 30 (0, 0)) := by
  have hb : Below B w w5 := ((below_alloc w (.cells #[sv p.1, sv p.2] t)).mono h.size).grown hg (by simp; have := h.size; omega) (fun g hg => (POwn.lt h.done g hg).1)
  have c1 : Ch (fun k => some k = dv.ownBlock) w w5 := (ch_new (below_alloc w (.cells #[sv p.1, sv p.2] t)) _).trans (ch_grown hg)
  have h5 : w5.heap[X]? = some (.cells #[lv, dv, .int .i64 bad, sv nm, .int .i64 0, ov] 30 (0, 0)) := (c1.kp (fun e => h.ndv h.done e.symm rfl)).at_ h.hX
  have ho5 : w5.ownsRow B 9 1 ov way.length (way.map sv) := own_kp h.own fun g hg => c1.kp fun e => by
    obtain ⟨c, h3⟩ := own_obj h.own hg
    obtain ⟨c', h4⟩ := own_obj h.done e.symm
    rw [h3] at h4
    simp at h4
  have hq5 := kept_next h.kept hb.size fun k hp hk => c1.block k hk fun e => h.sep.2.1 k e.symm hp
  have hsep : ∀ g, dv'.ownBlock = some g → ¬ KP g := by
    intro g hg1 hg2
    rcases hat with e | e
    · exact h.sep.2.1 g (e ▸ hg1) hg2
    · rw [hg1] at e
      have := (h.kept.2 g hg2).1
      have := h.kept.1
      simp at e
      omega
  have hs5 := (Array.getElem?_eq_some_iff.1 h5).1
  have hb2 : Below B w5 (w5.setCell ⟨X, 1, none⟩ dv') := (ch_set w5 X 1 dv').below (B := B) (fun k hk => hk ▸ h.lo) (by have := h.lo; omega)
  have hne : ∀ g, dv'.ownBlock = some g → ¬ g = X := by
    rintro g hg2 rfl
    obtain ⟨c, h3⟩ := own_obj hown hg2
    rw [h5] at h3
    simp at h3
  have hne2 : ∀ g, ov.ownBlock = some g → ¬ g = X := by
    rintro g hg2 rfl
    obtain ⟨c, h3⟩ := own_obj ho5 hg2
    rw [h5] at h3
    simp at h3
  exact ⟨⟨heap_setCell_same w5 X 1 _ _ dv' h5, RProps.stable.agree h.props (ag_of_below (hb.trans hb2)), own_kp hown fun g hg => (ch_set w5 X 1 dv').kp (hne g hg), own_kp ho5 fun g hg => (ch_set w5 X 1 dv').kp (hne2 g hg), h.lo, kept_next hq5 hb2.size fun k hp hk => (ch_set w5 X 1 dv').block k hk (fun e => h.sep.1 (e ▸ hp)), ⟨h.sep.1, hsep, h.sep.2.2⟩⟩, hb.trans hb2, h5⟩
theorem RefAt.popO {g cap : Nat} {n : Bs} (h : RefAt KP KW w B X lv L dv done bad nm (.slice (some ⟨g, 0, none⟩) (way.length + 1) cap) (way ++ [n])) :
    RefAt KP KW (w.setCell ⟨X, 5, none⟩ (.slice (some ⟨g, 0, none⟩) way.length cap)) B X lv L dv done bad nm (.slice (some ⟨g, 0, none⟩) way.length cap) way ∧ Below B w (w.setCell ⟨X, 5, none⟩ (.slice (some ⟨g, 0, none⟩) way.length cap)) := by
  refine h.put 5 _ rfl h.done ?_
  have h2 := h.own
  rw [List.length_append, List.length_singleton] at h2
  have := own_shrink h2
  simpa using this
/-- blocks that are shown to stay from here on -/
theorem RefAt.hold (h : RefAt KP KW w B X lv L dv done bad nm ov way) (KP' : Nat → Prop) (hk : ∀ k, KP' k → k < w.heap.size) (hs : ¬ KP' X ∧ (∀ g, dv.ownBlock = some g → ¬ KP' g) ∧ (∀ g, ov.ownBlock = some g → ¬ KP' g)) : RefAt KP' w w B X lv L dv done bad nm ov way :=
  ⟨h.hX, h.props, h.done, h.own, h.lo, ⟨Nat.le_refl _, fun k hp => ⟨hk k hp, rfl⟩⟩, hs⟩
theorem RefAt.stays (h : RefAt KP KW w B X lv L dv done bad nm ov way) {k : Nat} (hk : KP k) : Kp KW w k := fun _ ho => (h.kept.2 k hk).2.trans ho
end
theorem fail_any {w : World} {KP : Nat → Prop} {KW : World} {B X : Nat} {lv dv ov : Value} {L done : PL} {way : List Bs} (c : Int) (n : Bs) (h : RefAt KP KW w B X lv L dv done 0 [] ov way) :
    Calls Try.prog 46 #[.pointer (some ⟨X, 0, none⟩), .int .i64 c, sv n] w fun e w' => e = .returned (.tuple #[]) ∧ RefAt KP KW w' B X lv L dv done c n ov way ∧ Below B w w' := by
  have HR := Lib.hid h
  obtain ⟨-, -, k2, k3, -, kf⟩ := h.cells
  clear h
  go_enter Try.func46, Try.ntmps46
  go_wp2
  go_end0
  obtain ⟨h1, b1⟩ := HR.out.put (bad' := c) (nm' := []) (dv' := dv) (ov' := ov) 2 (.int .i64 c) rfl HR.out.done HR.out.own
  obtain ⟨h2, b2⟩ := h1.put (bad' := c) (nm' := n) (dv' := dv) (ov' := ov) 3 (sv n) rfl h1.done h1.own
  exact ⟨rfl, h2, b1.trans b2⟩
end Go.Proofs.Ytpgdioopkcfjdaa
