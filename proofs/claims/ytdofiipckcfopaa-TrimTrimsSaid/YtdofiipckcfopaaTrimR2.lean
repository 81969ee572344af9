/- What the reference's small functions compute: has, without. -/
import Derived.Test.YtdofiipckcfopaaTrimR1
namespace Go.Proofs.Ytdofiipckcfopaa
open Go.RowKit

set_option maxHeartbeats 400000 in
theorem rhas_any (s : Value) (x : Int) (l : List Int) (w : World) {B : Nat} (hs : RInts w (Lt B) s l) :
    Calls Try.prog 29 #[s, .int .i64 x] w fun e w' => e = .returned (.bool (hasB l x)) ∧ w = w' := by
  obtain ⟨A, c, rfl, hm, hat⟩ := hs.open_
  have Hat := Lib.hid hat; clear hat
  go_enter Try.func29, Try.ntmps29
  go_wp2
  go_loop [9] (fun sv => ∃ k : Nat, k ≤ (l).length ∧ sv = .int .i64 k ∧ Hid ((l.take k).any (fun y => y == x) = false)) (fun sv => (l).length - (intOf sv).toNat)
  case atStart => exact ⟨0, Nat.zero_le _, rfl, hid_nil_any _ _⟩
  case round =>
    obtain ⟨k, hkle, rfl, hkinv⟩ := hrel
    by_cases hklt : k < (l).length
    · obtain ⟨bk, offk, uk, rfl, hbk, hcellk, huk⟩ := Hat.out.lt_ hklt
      obtain rfl := huk
      by_cases hx : l[k] = x
      · have Hx := Lib.hid hx
        have hx1 : (l[k] == x) = true := by simp [hx]
        clear hx
        go_wp2
        go_ret
        exact ⟨ret_bool (contains_true hklt Hx.out).symm, rfl⟩
      · have hx1 : (l[k] == x) = false := by simp [hx]
        clear hx
        go_wp2
        go_round
        case rel => exact ⟨k + 1, by omega, by go_num, hid_any_succ hklt hkinv hx1⟩
        case measure => simp [intOf]; omega
    · obtain rfl : k = (l).length := by omega
      go_wp2
      go_ret
      exact ⟨ret_bool (contains_false hkinv).symm, rfl⟩

theorem take_get {α : Type} {l : List α} {n j : Nat} {u : α} (h : (l.take n)[j]? = some u) : l[j]? = some u := by
  obtain ⟨hj, rfl⟩ := List.getElem?_eq_some_iff.1 h
  rw [List.getElem_take]; exact List.getElem?_eq_getElem _
abbrev OrNew (S : Nat → Prop) (w w' : World) : Nat → Prop := fun b => S b ∨ (w.heap.size ≤ b ∧ b < w'.heap.size)
theorem one_slice {R : Rd Int} {w : World} {S : Nat → Prop} {u : Value} {l : List Int} (h : RSl R w S u l) : u.oneCell' = true := by obtain ⟨A, c, rfl, _⟩ := h; rfl
/-- All of a row but one, put behind each other in a new row. -/
theorem erase_row {α : Type} {R : Rd α} (hR : Stable R) {w w' : World} {S : Nat → Prop} {l : List α} {xs : List Value} {i : Nat} {t : TypeId} {v : Value} (hS : ∀ b, S b → b < w.heap.size) (hxl : xs.length = l.length) (hi : i < l.length)
    (hxr : ∀ j (hj : j < l.length) u, xs[j]? = some u → R w S u l[j]) (hb : Below w.heap.size w w') (ho : w'.ownsRow w.heap.size t 1 v (l.length - 1) (xs.take i ++ xs.drop (i + 1))) : RSl R w' (OrNew S w w') v (l.eraseIdx i) := by
  have hle : (l.eraseIdx i).length = l.length - 1 := by rw [List.length_eraseIdx_of_lt hi]
  refine reads_of_own ho hle (fun b hb' => .inr (ho.lt b hb')) fun k hk u hu => ?_
  rw [← List.eraseIdx_eq_take_drop_succ, List.getElem?_eraseIdx] at hu
  rw [List.getElem_eraseIdx]
  split at hu
  · next h =>
    simp only [h, dite_true]
    exact hR _ _ _ _ _ _ (hxr k (by omega) u hu) (fun b hb' => hb.block b (hS b hb')) fun b hb' => .inl hb'
  · next h =>
    simp only [h, dite_false]
    exact hR _ _ _ _ _ _ (hxr (k + 1) (by omega) u hu) (fun b hb' => hb.block b (hS b hb')) fun b hb' => .inl hb'
set_option maxRecDepth 100000 in
set_option maxHeartbeats 1000000 in
theorem without_any {S : Nat → Prop} (s : Value) (C : Cls) (i : Nat) (w : World) (hS : ∀ b, S b → b < w.heap.size) (hs : RIntss w S s C) (hi : i < C.length) (hC : C.length ≤ 1000000) :
    Calls Try.prog 30 #[s, .int .i64 (i : Nat)] w fun e w' => ∃ v', e = .returned v' ∧ Below w.heap.size w w' ∧ RIntss w' (OrNew S w w') v' (C.eraseIdx i) := by
  have hcap := fun A n c (e : s = .slice A n c) => RSl.cap_ (e ▸ hs)
  obtain ⟨A, c, rfl, hm, hat⟩ := hs.open_
  obtain ⟨xs, hxl, hxr, hxa⟩ := cells_named hs
  obtain ⟨b, off, rfl, hb, hcell⟩ := hxa (by omega)
  have hnc := hcap _ _ _ rfl
  have hbl := hS b hb
  have Hx1 : Hid (∀ u ∈ xs, u.oneCell' = true) := fun u hu => by
    obtain ⟨j, hj, rfl⟩ := List.getElem_of_mem hu
    exact one_slice (hxr j (by omega) _ (List.getElem?_eq_getElem hj))
  have Hxr := Lib.hid hxr
  have Hcell := Lib.hid hcell
  clear hat hxa hcell hxr hs hcap
  have Hown0 := Lib.hid (World.ownsRow_lit (e := 27) (base := w.heap.size) (size := 1) w #[] 0 (Nat.le_refl _) (by unfold maxLen; omega) (by rfl))
  have hic : (i : Int) ≤ (c : Int) := by omega
  have hwr : IntKind.i64.wrap ((i : Int) + 1) = (i : Int) + 1 := by rw [IntKind.wrap_i64]; omega
  have hin : (i : Int) + 1 ≤ C.length := by omega
  have hi0 : (0 : Int) ≤ (i : Int) + 1 := by omega
  obtain ⟨ad, had⟩ : ∃ ad, (if c = i + 1 then some (⟨b, off, none⟩ : Addr) else some ⟨b, off + (i + 1), none⟩) = some ad := by split <;> exact ⟨_, rfl⟩
  have Had : Hid (∀ j u, (xs.drop (i + 1))[j]? = some u → w.cell? (ad.add j) = some u) := fun j u hu => by
    have hj := (List.getElem?_eq_some_iff.1 hu).1
    simp only [List.length_drop] at hj
    rw [if_neg (by omega)] at had
    cases had
    rw [List.getElem?_drop] at hu
    rw [add_none, Nat.add_assoc]
    exact Hcell.out _ u hu
  have Hadb : Hid (ad.block = b) := by split at had <;> (cases had; rfl)
  go_enter Try.func30, Try.ntmps30
  go_wp2_with fail
  go_region_law (first
    | (refine step_append_own (by rfl) (.tmp 5) (.tmp 8) 22 (by rfl) (base := w.heap.size) eRow (.slice (some ⟨w.heap.size, 0, none⟩) 0 0) 0 [] (by simp [Act.eval]) Hown0.out.drew ⟨b, off, none⟩ i c (xs.take i) (by simp [Act.eval]) (by simp; omega) (fun j u hu => ?_) (fun u hu => Hx1.out u (List.mem_of_mem_take hu)) (by omega) (by simp) ?_
       · rw [add_none, World.cell?_drew, World.cell?_alloc_lt _ _ _ hbl]
         exact Hcell.out j u (take_get hu)
       intro v1 w1 ho1 hg1 hat1
       rw [Nat.zero_add] at ho1
       obtain ⟨A1, k1, rfl⟩ := own_shape ho1
       have Ho1 := Lib.hid ho1
       have Hb1 := Lib.hid ((below_drewN (below_alloc w (.cells #[] 27)) 1).grown hg1 (by simp) (fun i hi => by cases hi; exact Nat.le_refl _))
       clear ho1 hg1 hat1)
    | (refine step_append_own (by rfl) (.tmp 9) (.tmp 13) 22 (by rfl) (base := w.heap.size) eRow (.slice A1 i k1) i ([] ++ xs.take i) (by simp [Act.eval]) Ho1.out ad (C.length - (i + 1)) (c - (i + 1)) (xs.drop (i + 1)) (by simp [Act.eval]) (by simp; omega) (fun j u hu => ?_) (fun u hu => Hx1.out u (List.mem_of_mem_drop hu)) (by omega) (Hb1.out.size) ?_
       · rw [Hb1.out.cell (by rw [block_of_add, Hadb.out]; exact hbl)]
         exact Had.out j u hu
       intro v2 w2 ho2 hg2 hat2
       rw [show i + (C.length - (i + 1)) = C.length - 1 by omega, List.nil_append] at ho2
       have Hb2 := Lib.hid (Hb1.out.grown hg2 Hb1.out.size (fun i hi => (Ho1.out.lt i hi).1))
       have Hr := Lib.hid (erase_row RInts.stable hS hxl hi Hxr.out Hb2.out ho2)
       clear ho2 hg2 hat2))
  all_goals
    go_wp2
    go_ret
    exact ⟨_, rfl, Hb2.out, Hr.out⟩
end Go.Proofs.Ytdofiipckcfopaa
