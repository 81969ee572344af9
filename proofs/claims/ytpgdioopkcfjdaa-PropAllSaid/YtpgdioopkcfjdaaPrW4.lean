/- prop.Refs and the reference's Refs: the names that a text refers to. -/
import Derived.Test.YtpgdioopkcfjdaaPrW3
namespace Go.Proofs.Ytpgdioopkcfjdaa
open Go.RowKit

theorem eStr : Elem1 Try.prog 23 9 16 := elem1_mk (z := .string ⟨#[]⟩) Try.underlying23 (by kernel_rfl) (by omega) rfl
theorem MaxAt.lt {m : Int} {w : World} (h : MaxAt m w) : 0 < w.heap.size := World.block_lt_of_cell? w ⟨0, 0, none⟩ h
theorem MaxAt.below {m : Int} {w w' : World} {B : Nat} (h : MaxAt m w) (hb : Below B w w') (hB : 0 < B) : MaxAt m w' := (hb.cell (p := ⟨0, 0, none⟩) hB).trans h
def RTx : Rd Bs := fun _ _ v x => v = sv x
theorem RTx.stable : Stable RTx := fun _ _ _ _ _ _ h _ _ => h
abbrev RTxs := RSl RTx
theorem RTxs.stable : Stable RTxs := RSl.stable RTx.stable
theorem txs_of_own {w : World} {S : Nat → Prop} {base : Nat} {e : TypeId} {v : Value} {l : List Bs} (h : w.ownsRow base e 1 v l.length (l.map sv)) (hS : ∀ g, v.ownBlock = some g → S g) : RTxs w S v l :=
  reads_of_own h rfl hS fun k hk u hu => by rw [List.getElem?_map, List.getElem?_eq_getElem hk] at hu; simpa [RTx, eq_comm] using hu
theorem own_drewN {w : World} {base : Nat} {e : TypeId} {size : Nat} {v : Value} {n : Nat} {xs : List Value} (h : w.ownsRow base e size v n xs) (k : Nat) : (w.drewN k).ownsRow base e size v n xs := h
theorem one_new (w : World) (v : Value) (t : TypeId) : (w.alloc (.cells #[v] t)).cell? ⟨w.heap.size, 0, none⟩ = some v := cell_of_row _ _ _ _ _ (0, 0) (heap_alloc_new w _)
def strLen : Value → Nat | .string s => s.size | _ => 0
/-- what the loop has done: the names so far, the rest -/
def RefsTo (s : Bs) (done : List Bs) (rest : Bs) : Prop := refsP s = done ++ refsP rest ∧ rest.length ≤ s.length ∧ done.length + rest.length ≤ s.length
theorem RefsTo.step {s rest a n r : Bs} {done : List Bs} (h : RefsTo s done rest) (hc : cutP rest = some (a, n, r)) : RefsTo s (done ++ [n]) r := by
  obtain ⟨h1, h2, h3⟩ := h
  have := cutP_lt hc
  exact ⟨by rw [h1, refsP_some hc]; simp, by omega, by simp; omega⟩
set_option maxHeartbeats 1000000 in
theorem Refs_any (s : Bs) (m : Int) (w : World) (hs : s.length ≤ 1000000) (hm : MaxAt m w) : Calls Try.prog 21 #[sv s] w fun e w' => ∃ v, e = .returned v ∧ RTxs w' (Lt w'.heap.size) v (refsP s) ∧ Below w.heap.size w w' := by
  have HM := Lib.hid hm
  have hB0 := hm.lt
  clear hm
  obtain ⟨B, hB⟩ : ∃ B, B = w.heap.size := ⟨_, rfl⟩
  have HBe := Lib.hid hB
  rw [← hB] at hB0 ⊢
  clear hB
  go_enter Try.func21, Try.ntmps21
  go_wp2
  go_loopw [0, 2] (fun rv lv wr => ∃ (done : List Bs) (rest : Bs), rv = sv rest ∧ Hid (RefsTo s done rest) ∧ Hid (wr.ownsRow B 9 1 lv done.length (done.map sv)) ∧ Hid (Below B w wr)) (fun rv _ _ => strLen rv)
  case atStart => exact ⟨[], s, rfl, Lib.hid ⟨rfl, Nat.le_refl _, by simp⟩, Lib.hid ⟨rfl, .inl ⟨rfl, rfl⟩⟩, Lib.hid (Below.refl _ _)⟩
  case round =>
    obtain ⟨lv, hlv⟩ : ∃ lv, lv = u2 := ⟨_, rfl⟩
    rw [← hlv] at hrel ⊢
    clear hlv
    obtain ⟨done, rest, rfl, HR, HO, HB⟩ := hrel
    have Hc := Lib.hid (cut_any rest m wr (by have := HR.out.2.1; omega) (HM.out.below HB.out hB0))
    cases hc : cutP rest with
    | none =>
      rw [hc] at Hc
      have Hd := Lib.hid (show refsP s = done by rw [HR.out.1, refsP_none hc]; simp)
      clear hc
      go_wp2_with (go_at_call 35; with_reducible refine Hc.out.mono ?_; rintro e w1 ⟨rfl, nd, rfl⟩; dsimp only [cutV])
      go_ret
      exact ⟨_, rfl, by rw [Hd.out]; exact txs_of_own HO.out fun g hg => (HO.out.lt g hg).2, below_drewN HB.out _⟩
    | some x =>
      obtain ⟨a, n, r⟩ := x
      rw [hc] at Hc
      have Hn := Lib.hid (HR.out.step hc)
      have Hlt := Lib.hid (cutP_lt hc)
      clear hc
      go_wp2_with (first
        | (go_at_call 35; with_reducible refine Hc.out.mono ?_; rintro e w1 ⟨rfl, nd, rfl⟩; dsimp only [cutV])
        | (at_builtin; refine wpList_push rfl _ _ _ rfl eStr (v := lv) rfl ((own_drewN HO.out nd).alloc _) wr.heap.size (sv n) rfl (one_new (wr.drewN nd) _ _) rfl (by have := HR.out.2.2; omega) (by have := HB.out.size; have := HBe.out; simp; omega) ?_; intro v1 w5 hown1 hg1 hat1))
      refine ⟨⟨done ++ [n], r, rfl, Hn, Lib.hid (by simpa using hown1), Lib.hid ?_⟩, Hlt.out⟩
      have hs1 := HB.out.size
      have hs0 := HBe.out
      exact ((below_drewN HB.out nd).alloc (show B ≤ wr.heap.size by omega) _).grown hg1 (by simp; omega) (fun i hi => (HO.out.lt i hi).1)
set_option maxHeartbeats 1000000 in
theorem RefRefs_any (s : Bs) (w : World) (hs : s.length ≤ 1000000) : Calls Try.prog 18 #[sv s] w fun e w' => ∃ v, e = .returned v ∧ RTxs w' (Lt w'.heap.size) v (refsP s) ∧ Below w.heap.size w w' := by
  obtain ⟨B, hB⟩ : ∃ B, B = w.heap.size := ⟨_, rfl⟩
  have HBe := Lib.hid hB
  rw [← hB]
  clear hB
  go_enter Try.func18, Try.ntmps18
  go_wp2
  go_loopw [0, 3] (fun rv lv wr => ∃ (done : List Bs) (rest : Bs), rv = sv rest ∧ Hid (RefsTo s done rest) ∧ Hid (wr.ownsRow B 9 1 lv done.length (done.map sv)) ∧ Hid (Below B w wr)) (fun rv _ _ => strLen rv)
  case atStart => exact ⟨[], s, rfl, Lib.hid ⟨rfl, Nat.le_refl _, by simp⟩, Lib.hid ⟨rfl, .inl ⟨rfl, rfl⟩⟩, Lib.hid (Below.refl _ _)⟩
  case round =>
    obtain ⟨lv, hlv⟩ : ∃ lv, lv = u3 := ⟨_, rfl⟩
    rw [← hlv] at hrel ⊢
    clear hlv
    obtain ⟨done, rest, rfl, HR, HO, HB⟩ := hrel
    have Hc := Lib.hid (Ref_any rest wr (by have := HR.out.2.1; omega))
    cases hc : cutP rest with
    | none =>
      rw [hc] at Hc
      have Hd := Lib.hid (show refsP s = done by rw [HR.out.1, refsP_none hc]; simp)
      clear hc
      go_wp2_with (go_at_call 34; with_reducible refine Hc.out.mono ?_; rintro e w1 ⟨rfl, nd, rfl⟩; dsimp only [refV])
      go_ret
      exact ⟨_, rfl, by rw [Hd.out]; exact txs_of_own HO.out fun g hg => (HO.out.lt g hg).2, below_drewN HB.out _⟩
    | some x =>
      obtain ⟨a, n, r⟩ := x
      rw [hc] at Hc
      have Hn := Lib.hid (HR.out.step hc)
      have Hlt := Lib.hid (cutP_lt hc)
      have hrs := bz_size rest
      have hns := bz_size n
      have hle := cutP_len hc
      have hrl : rest.length ≤ 1000000 := by have := HR.out.2.1; omega
      have Hx := Lib.hid (show (bz rest).extract (a.length + n.length + 3) rest.length = bz r from cutP_rest hc)
      clear hc
      have b4 : a.length + n.length + 3 ≤ rest.length := by omega
      go_wp2_with (first
        | (go_at_call 34; with_reducible refine Hc.out.mono ?_; rintro e w1 ⟨rfl, nd, rfl⟩; dsimp only [refV])
        | (at_builtin; refine wpList_push rfl _ _ _ rfl eStr (v := lv) rfl ((own_drewN HO.out nd).alloc _) wr.heap.size (sv n) rfl (one_new (wr.drewN nd) _ _) rfl (by have := HR.out.2.2; omega) (by have := HB.out.size; have := HBe.out; simp; omega) ?_; intro v1 w5 hown1 hg1 hat1))
      refine ⟨⟨done ++ [n], r, by rw [Hx.out], Hn, Lib.hid (by simpa using hown1), Lib.hid ?_⟩, ?_⟩
      · have hs1 := HB.out.size
        have hs0 := HBe.out
        exact ((below_drewN HB.out nd).alloc (show B ≤ wr.heap.size by omega) _).grown hg1 (by simp; omega) (fun i hi => (HO.out.lt i hi).1)
      · rw [Hx.out]; exact Hlt.out
end Go.Proofs.Ytpgdioopkcfjdaa
