/- What slices.DeleteFunc computes on a row of numbers of the call's own memory; slices.IndexFunc and ContainsFunc on rows of rows. -/
import Derived.Test.YtdofiipckcfopaaFnDelete
import Derived.Test.YtdofiipckcfopaaFnIdxF
namespace Go.Proofs.Ytdofiipckcfopaa
open Go.RowKit

/-- The row while it is gone through: i numbers are kept, j were looked at. -/
structure Mid (l : List Int) (p : Int → Bool) (i j : Nat) (xs : List Int) : Prop where
  len : xs.length = l.length
  kept : xs.take i = (l.take j).filter fun x => !p x
  rest : xs.drop j = l.drop j
  le : i ≤ j
  jl : j ≤ l.length
theorem Mid.at_ {l : List Int} {p : Int → Bool} {i j : Nat} {xs : List Int} (h : Mid l p i j xs) (hj : j < l.length) : xs[j]? = some l[j] := by
  have := congrArg (fun r => r[0]?) h.rest
  simpa [List.getElem?_drop, List.getElem?_eq_getElem hj] using this
theorem Mid.skip {l : List Int} {p : Int → Bool} {i j : Nat} {xs : List Int} (h : Mid l p i j xs) (hj : j < l.length) (hp : p l[j] = true) : Mid l p i (j + 1) xs := by
  refine ⟨h.len, ?_, ?_, by have := h.le; omega, by omega⟩
  · rw [h.kept, List.take_succ_eq_append_getElem hj, List.filter_append]; simp [hp]
  · have := congrArg (List.drop 1) h.rest
    simpa [List.drop_drop] using this
theorem Mid.keep {l : List Int} {p : Int → Bool} {i j : Nat} {xs : List Int} (h : Mid l p i j xs) (hj : j < l.length) (hp : p l[j] = false) : Mid l p (i + 1) (j + 1) (xs.set i l[j]) := by
  have hle := h.le
  have hl := h.len
  refine ⟨by simp [h.len], ?_, ?_, by omega, by omega⟩
  · rw [List.take_succ_eq_append_getElem (by simp; omega), List.take_set_of_le (Nat.le_refl _), h.kept, List.take_succ_eq_append_getElem hj, List.filter_append]
    simp [hp]
  · rw [List.drop_set_of_lt (by omega)]
    have := congrArg (List.drop 1) h.rest
    simpa [List.drop_drop] using this
theorem Mid.start {l : List Int} {p : Int → Bool} {k : Nat} (hk : k < l.length) (hn : Hid ((l.take k).any p = false)) (hp : p l[k] = true) : Mid l p k (k + 1) l := by
  refine ⟨rfl, ?_, rfl, by omega, by omega⟩
  rw [List.take_succ_eq_append_getElem hk, List.filter_append]
  have := List.any_eq_false.1 hn.out
  rw [List.filter_eq_self.2 (fun x hx => by simpa using this x hx)]
  simp [hp]
theorem Mid.done {l : List Int} {p : Int → Bool} {i : Nat} {xs : List Int} (h : Mid l p i l.length xs) : xs.take i = l.filter fun x => !p x := by
  have := h.kept
  rwa [List.take_length] at this
theorem idxFn_some {p : Int → Bool} {l : List Int} (h : idxFn p l ≠ -1) : ∃ k : Nat, idxFn p l = (k : Int) ∧ ∃ hk : k < l.length, Hid ((l.take k).any p = false) ∧ p l[k] = true := by
  unfold idxFn at h ⊢
  cases hf : l.findIdx? p with
  | none => rw [hf] at h; exact absurd rfl h
  | some k =>
    obtain ⟨hk, hp, hn⟩ := List.findIdx?_eq_some_iff_getElem.1 hf
    refine ⟨k, rfl, hk, ?_, hp⟩
    rw [Hid, List.any_eq_false]
    intro x hx
    obtain ⟨j, hj, rfl⟩ := List.mem_take_iff_getElem.1 hx
    exact hn j (by omega)
theorem idxFn_none {p : Int → Bool} {l : List Int} (h : idxFn p l = -1) : (l.filter fun x => !p x) = l := by
  refine List.filter_eq_self.2 fun x hx => ?_
  have h1 := idxFn_nonneg p l
  rw [h] at h1
  have := List.any_eq_false.1 h1.symm x hx
  simpa using this
def DelFPost (base : Nat) (v : Value) (l : List Int) (p : Int → Bool) (w : World) (e : Ending) (w' : World) : Prop :=
  ∃ v', e = .returned v' ∧ w'.ownsRow base 3 1 v' (l.filter fun x => !p x).length ((l.filter fun x => !p x).map (Value.int .i64)) ∧ v'.ownBlock = v.ownBlock ∧ w.grownBy w' v.ownBlock
theorem own_cut {w : World} {base g cap n m : Nat} {t : TypeId} {xs : List Value} (h : w.ownsRow base t 1 (.slice (some ⟨g, 0, none⟩) n cap) n xs) (hm : m ≤ n) : w.ownsRow base t 1 (.slice (some ⟨g, 0, none⟩) m cap) m (xs.take m) := by
  have hxl : xs.length = n := by simpa using h.1
  obtain ⟨_, ⟨h, _⟩ | ⟨g', cap', cur, h, hbg, hh, hnc, hcm, hsz, htk⟩⟩ := h
  · cases h
  cases h
  refine ⟨by simp; omega, .inr ⟨g, cap, cur, rfl, hbg, hh, by omega, hcm, hsz, ?_⟩⟩
  rw [← htk, List.take_take]
  congr 1
  omega
theorem own_ints {w : World} {base : Nat} {v : Value} {l : List Int} (h : w.ownsRow base 3 1 v l.length (l.map (Value.int .i64))) : RInts w (Lt w.heap.size) v l := ints_of_own h fun g hg => (h.lt g hg).2
/-- A row of the call's own, read at its block. -/
theorem own_at {w : World} {base g cap n : Nat} {t : TypeId} {xs : List Value} (h : w.ownsRow base t 1 (.slice (some ⟨g, 0, none⟩) n cap) n xs) (j : Nat) : (j < n → w.cell? ⟨g, j, none⟩ = xs[j]?) ∧ w.frozen? ⟨g, j, none⟩ = false :=
  ⟨fun hj => h.cellAt j (by omega), h.frozenAt j⟩
theorem own_set {w : World} {base g cap n : Nat} {t : TypeId} {xs : List Value} (h : w.ownsRow base t 1 (.slice (some ⟨g, 0, none⟩) n cap) n xs) (j : Nat) (u : Value) : (w.setCell ⟨g, j, none⟩ u).ownsRow base t 1 (.slice (some ⟨g, 0, none⟩) n cap) n (xs.set j u) := by
  have hxl : xs.length = n := by simpa using h.1
  obtain ⟨_, ⟨h, _⟩ | ⟨g', cap', cur, h, hbg, hh, hnc, hcm, hsz, htk⟩⟩ := h
  · cases h
  cases h
  refine ⟨by simp; omega, .inr ⟨g, cap, _, rfl, hbg, heap_setCell_same w g j cur t u hh, hnc, hcm, by simpa using hsz, ?_⟩⟩
  rw [← htk, Array.toList_setIfInBounds, List.take_set]

theorem own_cleared {w : World} {base g cap n m : Nat} {t : TypeId} {xs vs : List Value} (h : w.ownsRow base t 1 (.slice (some ⟨g, 0, none⟩) n cap) n xs) (hm : m ≤ n) (hv : m + vs.length ≤ n) : (w.setCells g m vs).ownsRow base t 1 (.slice (some ⟨g, 0, none⟩) m cap) m (xs.take m) := by
  have hxl : xs.length = n := by simpa using h.1
  obtain ⟨_, ⟨h, _⟩ | ⟨g', cap', cur, h, hbg, hh, hnc, hcm, hsz, htk⟩⟩ := h
  · cases h
  cases h
  refine ⟨by simp; omega, .inr ⟨g, cap, _, rfl, hbg, heap_setCells g _ _ _ _ cur hh, by omega, hcm, by rw [Go.Lib.lay_size]; exact hsz, ?_⟩⟩
  rw [← htk, List.take_take]
  apply List.ext_getElem?
  intro j
  rw [List.getElem?_take, List.getElem?_take]
  by_cases hj : j < m
  · rw [if_pos (by omega), if_pos (by omega), Array.getElem?_toList, Array.getElem?_toList, Go.Lib.lay_get? _ _ _ _ (by omega), if_neg (by omega)]
  · rw [if_neg (by omega), if_neg (by omega)]

set_option maxRecDepth 100000 in
set_option maxHeartbeats 4000000 in
theorem DeleteFunc_any (f : FuncId) (b : Nat) (p : Int → Bool) (base : Nat) (v : Value) (l : List Int) (w : World) (hown : w.ownsRow base 3 1 v l.length (l.map (Value.int .i64))) (hlen : l.length ≤ 1000000) (hbw : b < w.heap.size) (hbs : v.ownBlock = none ∨ v.ownBlock ≠ some b)
    (hcf : ∀ (args : Array Value) (w : World), (callFunc f args).run Try.prog w = .ok (.enter f args) w)
    (hf : ∀ w' : World, w'.cell? ⟨b, 0, none⟩ = w.cell? ⟨b, 0, none⟩ → ∀ x, Calls Try.prog f #[.int .i64 x, .pointer (some ⟨b, 0, none⟩)] w' fun e w'' => e = .returned (.bool (p x)) ∧ w' = w'') :
    Calls Try.prog 77 #[v, .func (.func f) #[] #[.pointer (some ⟨b, 0, none⟩)]] w (DelFPost base v l p w) := by
  have Hr := Lib.hid (own_ints hown)
  have Hown := Lib.hid hown
  obtain ⟨A, k, rfl⟩ := own_shape hown
  clear hown
  have Hf0 := Lib.hid (hf w rfl)
  by_cases hi : idxFn p l = -1
  · have Hi := Lib.hid hi; clear hi
    go_enter Try.func77, Try.ntmps77
    go_wp2_with (go_at_call 82; refine (IndexFunc_any _ _ p _ l _ Hr.out hcf Hf0.out).mono ?_; rintro e w1 ⟨rfl, rfl⟩; rw [Hi.out])
    go_ret
    exact ⟨_, rfl, by rw [idxFn_none Hi.out]; exact Hown.out, rfl, ⟨rfl, rfl, rfl, Nat.le_refl _, fun _ _ _ => rfl⟩⟩
  obtain ⟨q, hq, hql, hqn, hqp⟩ := idxFn_some hi
  obtain ⟨g, rfl⟩ : ∃ g, A = some ⟨g, 0, none⟩ := by
    rcases Hown.out.2 with ⟨e, h0⟩ | ⟨g, cap, cur, e, _⟩
    · exact absurd h0 (by omega)
    · cases e; exact ⟨g, rfl⟩
  have hgb : g ≠ b := by
    rcases hbs with h | h
    · simp [Value.ownBlock] at h
    · simpa [Value.ownBlock] using h
  have Hq := Lib.hid hq
  have Hm0 := Lib.hid (Mid.start hql hqn hqp)
  have Hcf := Lib.hid hcf; have Hf := Lib.hid hf
  have hne : ((q : Int) == -1) = false := by simp
  clear hi hq hqn hqp hf hbs
  go_enter Try.func77, Try.ntmps77
  go_wp2_with (go_at_call 82; refine (IndexFunc_any _ _ p _ l _ Hr.out Hcf.out Hf0.out).mono ?_; rintro e w1 ⟨rfl, rfl⟩; rw [Hq.out])
  go_loopw [6, 5] (fun jv iv wr => ∃ i j xs, jv = .int .i64 (j : Nat) ∧ iv = .int .i64 (i : Nat) ∧ Mid l p i j xs ∧ i < j ∧ wr.ownsRow base 3 1 (.slice (some ⟨g, 0, none⟩) l.length k) l.length (xs.map (Value.int .i64)) ∧ w.grownBy wr (some g)) (fun jv _ _ => l.length - (intOf jv).toNat)
  case atStart => exact ⟨q, q + 1, l, by go_num, rfl, Hm0.out, by omega, Hown.out, ⟨rfl, rfl, rfl, Nat.le_refl _, fun _ _ _ => rfl⟩⟩
  case round =>
    obtain ⟨i, j, xs, rfl, rfl, hmid, hij, hown, hgr⟩ := hrel
    have hjl := hmid.jl
    have Hmid := Lib.hid hmid; have Hown1 := Lib.hid hown; have Hgr := Lib.hid hgr
    clear hmid hown hgr
    by_cases hjlt : j < l.length
    · have hcj : wr.cell? ⟨g, j, none⟩ = some (.int .i64 l[j]) := by
        rw [(own_at Hown1.out j).1 hjlt, List.getElem?_map, Hmid.out.at_ hjlt, Option.map_some]
      have hci : wr.cell? ⟨g, i, none⟩ = some (.int .i64 (xs[i]'(by have := Hmid.out.len; omega))) := by
        rw [(own_at Hown1.out i).1 (by omega), List.getElem?_map, List.getElem?_eq_getElem]; rfl
      have hfi := (own_at Hown1.out i).2
      have hcb : wr.cell? ⟨b, 0, none⟩ = w.cell? ⟨b, 0, none⟩ := by
        exact World.cell?_of_block (w := w) (Hgr.out.block b hbw (by simp; omega))
      have Hfw := Lib.hid (Hf.out wr hcb)
      clear hcb
      cases hx : p l[j] with
      | true =>
        have Hx := Lib.hid hx; clear hx
        go_wp2_with fail
        refine (Hfw.out _).mono ?_
        rintro e w1 ⟨rfl, rfl⟩
        rw [Hx.out]
        go_wp2
        go_roundw
        case rel => exact ⟨i, j + 1, xs, by go_num, rfl, Hmid.out.skip hjlt Hx.out, by omega, Hown1.out, Hgr.out⟩
        case measure => simp [intOf]; omega
      | false =>
        have Hx := Lib.hid hx; clear hx
        go_wp2_with fail
        refine (Hfw.out _).mono ?_
        rintro e w1 ⟨rfl, rfl⟩
        rw [Hx.out]
        go_wp2
        go_roundw
        case rel => exact ⟨i + 1, j + 1, xs.set i l[j], by go_num, by go_num, Hmid.out.keep hjlt Hx.out, by omega, by rw [List.map_set]; exact own_set Hown1.out i _, Hgr.out.trans ⟨rfl, rfl, rfl, by simp, fun k _ hk => Below.heap_setCell _ _ _ _ (fun e => hk (by simp [e]))⟩⟩
        case measure => simp [intOf]; omega
    · obtain rfl : j = l.length := by omega
      have hci := (own_at Hown1.out i).1 (by omega)
      have hxl := Hmid.out.len
      have hcl : ∀ ty, (Builtin.clear_ #[27] ty #[.slice (some ⟨g, i, none⟩) (l.length - i) (k - i)]).run Try.prog wr = .ok (.tuple #[]) (wr.setCells g i (List.replicate (l.length - i) (.int .i64 0))) :=
        fun ty => Go.Lib.run_clear_slice wr _ 3 ty (.int .i64 0) Try.underlying27 (fun _ => by kernel_rfl) rfl rfl g i (l.length - i) _ (by omega) (fun t ht => by rw [(own_at Hown1.out (i + t)).1 (by omega), List.getElem?_map, List.getElem?_eq_getElem (by omega)]; rfl) (fun t ht => (own_at Hown1.out (i + t)).2)
      clear hci
      have hkl : l.length ≤ k := by
        obtain ⟨_, ⟨h, _⟩ | ⟨g', cap', cur, h, hbg, hh, hnc, _⟩⟩ := Hown1.out
        · cases h
        · cases h; exact hnc
      go_wp2
      go_ret
      have hd := Hmid.out.done
      have hil : (l.filter fun x => !p x).length = i := by rw [← hd]; simp; omega
      refine ⟨_, rfl, ?_, rfl, Hgr.out.trans (setCells_grown _ _ _ _)⟩
      rw [hil, ← hd, List.map_take]
      exact own_cleared Hown1.out (by omega) (by simp; omega)
end Go.Proofs.Ytdofiipckcfopaa
