/- What the reference's unit propagation finds. Plain. / Whether a literal stands in a row: what the reference computes. / Follows: what follows is found. / .. -/
import Derived.Deep.LoopGhost
import Derived.Deep.DeepCutAuto
import Derived.Test.YtdofiipckcfopaaZa
import Derived.Test.YtdofiipckcfopaaZb
import Derived.Test.YtdofiipckcfopaaZd
namespace Go.Proofs.Ytdofiipckcfopaa.S15

/-- how many literals of a clause are left, ahead of place j, and the last of them -/
def lo (yes C : List Int) : Nat → Nat × Int
  | 0 => (0, 0)
  | j + 1 => if C.getD j 0 ≠ 0 ∧ -(C.getD j 0) ∉ yes ∧ C.getD j 0 ∉ C.take j then ((lo yes C j).1 + 1, C.getD j 0) else lo yes C j
theorem take_mem {C : List Int} {j : Nat} (h : j < C.length) {n : Int} : n ∈ C.take (j + 1) ↔ n ∈ C.take j ∨ n = C.getD j 0 := by
  rw [List.take_succ_eq_append_getElem h, List.mem_append, List.mem_singleton, List.getD_eq_getElem?_getD, List.getElem?_eq_getElem h]; rfl
theorem lo_le (yes C : List Int) : ∀ j, (lo yes C j).1 ≤ j
  | 0 => Nat.le_refl _
  | j + 1 => by have := lo_le yes C j; unfold lo; split <;> simp <;> omega
theorem lo_zero {yes C : List Int} : ∀ {j : Nat}, j ≤ C.length → (lo yes C j).1 = 0 → ∀ n ∈ C.take j, n = 0 ∨ -n ∈ yes
  | 0, _, _, n, h => by simp at h
  | j + 1, hj, h, n, hn => by
    unfold lo at h
    split at h
    · simp at h
    · rename_i hc
      have ih := lo_zero (j := j) (by omega) h
      rcases (take_mem (by omega)).1 hn with k | k
      · exact ih n k
      · by_cases h0 : n = 0
        · exact .inl h0
        · by_cases h1 : -n ∈ yes
          · exact .inr h1
          · rw [← k] at hc
            have : n ∈ C.take j := by
              refine Classical.byContradiction fun h2 => hc ⟨h0, h1, h2⟩
            exact ih n this
theorem lo_pos {yes C : List Int} : ∀ {j : Nat}, j ≤ C.length → 1 ≤ (lo yes C j).1 → (lo yes C j).2 ∈ C.take j ∧ (lo yes C j).2 ≠ 0 ∧ -(lo yes C j).2 ∉ yes
  | 0, _, h => by simp [lo] at h
  | j + 1, hj, h => by
    unfold lo at h ⊢
    split at h
    · rename_i hc
      rw [if_pos hc]
      exact ⟨(take_mem (by omega)).2 (.inr rfl), hc.1, hc.2.1⟩
    · rename_i hc
      rw [if_neg hc]
      have ih := lo_pos (j := j) (by omega) h
      exact ⟨(take_mem (by omega)).2 (.inl ih.1), ih.2⟩
theorem lo_two {yes C : List Int} (n : Int) : ∀ {j : Nat}, j ≤ C.length → 2 ≤ (lo yes C j).1 → ∃ m ∈ C.take j, m ≠ n ∧ -m ∉ yes
  | 0, _, h => by simp [lo] at h
  | j + 1, hj, h => by
    unfold lo at h
    split at h
    · rename_i hc
      have hp := lo_pos (yes := yes) (C := C) (j := j) (by omega) (by simp at h; omega)
      by_cases e : C.getD j 0 = n
      · refine ⟨_, (take_mem (by omega)).2 (.inl hp.1), fun e2 => hc.2.2 ?_, hp.2.2⟩
        rw [e, ← e2]; exact hp.1
      · exact ⟨_, (take_mem (by omega)).2 (.inr rfl), e, hc.2.1⟩
    · obtain ⟨m, h1, h2⟩ := lo_two n (j := j) (by omega) h
      exact ⟨m, (take_mem (by omega)).2 (.inl h1), h2⟩
/-- a clause is at rest -/
def ClR (yes C : List Int) : Prop := (lo yes C C.length).1 ≠ 0 ∧ ((lo yes C C.length).1 = 1 → (lo yes C C.length).2 ∈ yes)
theorem clo_of {db : List (List Int)} {yes : List Int} (h : ∀ C ∈ db, ClR yes C) (hc : ∀ x ∈ yes, -x ∉ yes) : Clo db (· ∈ yes) := by
  refine ⟨fun C hC => ?_, fun C hC n hn hm => ?_, fun n hn => hc n hn⟩
  · obtain ⟨h1, h2, h3⟩ := lo_pos (yes := yes) (C := C) (Nat.le_refl _) (by have := (h C hC).1; omega)
    rw [List.take_length] at h1
    exact ⟨_, h1, h3⟩
  · have hr := h C hC
    have h0 := hr.1
    have h2 : ¬ 2 ≤ (lo yes C C.length).1 := fun h2 => by
      obtain ⟨m, m1, m2, m3⟩ := lo_two n (Nat.le_refl _) h2
      rw [List.take_length] at m1
      exact m3 (hm m m1 m2)
    have h1 := hr.2 (by omega)
    obtain ⟨p1, p2, p3⟩ := lo_pos (yes := yes) (C := C) (Nat.le_refl _) (by omega)
    rw [List.take_length] at p1
    by_cases e : (lo yes C C.length).2 = n
    · rw [← e]; exact h1
    · exact (p3 (hm _ p1 e)).elim
theorem nodup_ints {M : Nat} {l : List Int} (hn : l.Nodup) (hb : ∀ x ∈ l, x.natAbs ≤ M) : l.length ≤ 2 * M + 1 := by
  have h1 : (l.map fun (x : Int) => (x + (M : Int)).toNat).length ≤ 2 * M + 1 := nodup_le' ?_ fun v hv => ?_
  · simpa using h1
  · rw [List.Nodup, List.pairwise_map]
    refine List.Pairwise.imp_of_mem (fun {a b} ha hb' h => ?_) hn
    have h1 := hb a ha
    have h2 := hb b hb'
    omega
  · obtain ⟨x, hx, rfl⟩ := List.mem_map.1 hv
    have := hb x hx
    omega
/-- what is taken as true: each once, none 0 -/
structure YOk (M : Nat) (yes : List Int) : Prop where
  nd : yes.Nodup
  bd : ∀ x ∈ yes, x ≠ 0 ∧ x.natAbs ≤ M
theorem YOk.len {M : Nat} {yes : List Int} (h : YOk M yes) : yes.length ≤ 2 * M + 1 := nodup_ints h.nd fun x hx => (h.bd x hx).2
theorem YOk.snoc {M : Nat} {yes : List Int} {x : Int} (h : YOk M yes) (h0 : x ≠ 0) (hx : x.natAbs ≤ M) (hn : x ∉ yes) : YOk M (yes ++ [x]) :=
  ⟨List.nodup_append.2 ⟨h.nd, by simp, fun a ha b hb e => by rw [List.mem_singleton] at hb; subst hb; subst e; exact hn ha⟩, fun y hy => by
    rcases List.mem_append.1 hy with k | k
    · exact h.bd y k
    · rw [List.mem_singleton.1 k]; exact ⟨h0, hx⟩⟩
end Go.Proofs.Ytdofiipckcfopaa.S15

namespace Go.Proofs.Ytdofiipckcfopaa
open Go.RowKit

set_option maxHeartbeats 400000 in
theorem Has_any (s : Value) (x : Int) (l : List Int) (w : World) {T : Nat → Prop} (hs : RInts w T s l) :
    Calls Try.prog 36 #[s, .int .i64 x] w fun e w' => e = .returned (.bool (hasB l x)) ∧ w' = w := by
  obtain ⟨A, c, rfl, hm, hat⟩ := hs.open_
  have Hat := Lib.hid hat; clear hat
  go_enter Try.func36, Try.ntmps36
  go_wp2
  go_loop [9] (fun sv => ∃ k : Nat, k ≤ l.length ∧ sv = .int .i64 k ∧ Hid ((l.take k).any (fun y => y == x) = false)) (fun sv => l.length - (intOf sv).toNat)
  case atStart => exact ⟨0, Nat.zero_le _, rfl, hid_nil_any _ _⟩
  case round =>
    obtain ⟨k, hkle, rfl, hkinv⟩ := hrel
    by_cases hklt : k < l.length
    · obtain ⟨b, off, u, rfl, hb, hu, hR⟩ := Hat.out.at_ RInt.stable (Ag.refl _ _) hklt
      obtain rfl := hR
      by_cases hx : l[k] = x
      · have Hc := Lib.hid (contains_true hklt hx)
        have hx1 : (l[k] == x) = true := by simp [hx]
        clear hx
        go_wp2
        go_ret
        exact ⟨ret_bool Hc.out.symm, rfl⟩
      · have hx1 : (l[k] == x) = false := by simp [hx]
        have Hx2 := Lib.hid hx1
        clear hx
        go_wp2
        go_round
        case rel => exact ⟨k + 1, by omega, by go_num, hid_any_succ hklt hkinv Hx2.out⟩
        case measure => simp [intOf]; omega
    · obtain rfl : k = l.length := by omega
      have Hc := Lib.hid (contains_false hkinv)
      go_wp2
      go_ret
      exact ⟨ret_bool Hc.out.symm, rfl⟩
theorem RSl.taken {α : Type} {R : Rd α} {w : World} {S : Nat → Prop} {A : Option Addr} {n c k : Nat} {l : List α} (h : RSl R w S (.slice A n c) l) (hk : k ≤ n) : RSl R w S (.slice A k c) (l.take k) := by
  obtain ⟨A', c', e, h1, h2, h3⟩ := h
  cases e
  have hl : (l.take k).length = k := by simp; omega
  refine ⟨A, c, by rw [hl], by omega, h2, fun hp => ?_⟩
  obtain ⟨b, off, e, hb, hc⟩ := h3 (by omega)
  exact ⟨b, off, e, hb, fun j hj => by rw [List.getElem_take]; exact hc j (by omega)⟩
end Go.Proofs.Ytdofiipckcfopaa

namespace Go.Proofs.Ytdofiipckcfopaa.S15
open Go.RowKit

theorem has_true {l : List Int} {x : Int} (h : x ∈ l) : hasB l x = true := hasB_iff.2 h
theorem has_false {l : List Int} {x : Int} (h : x ∉ l) : hasB l x = false := by
  cases e : hasB l x with
  | true => exact (h (hasB_iff.1 e)).elim
  | false => rfl
abbrev zV (l : List Int) : List Value := l.map (Value.int .i64)
theorem _root_.Go.Proofs.Ytdofiipckcfopaa.RSl.open2 {α : Type} {R : Rd α} {w : World} {S : Nat → Prop} {v : Value} {l : List α} (h : RSl R w S v l) :
    ∃ A c, v = .slice A l.length c ∧ l.length ≤ c ∧ l.length ≤ 9223372036854775807 ∧ c ≤ 9223372036854775807 ∧ RAt R w S A l := by
  obtain ⟨A, c, hv, h1, h2, h3⟩ := h
  unfold maxLen at h2
  exact ⟨A, c, hv, h1, by omega, by omega, h3⟩
theorem ints_own {w : World} {T : Nat → Prop} {B : Nat} {t : TypeId} {v : Value} {l : List Int} (h : OwnG w B t v (zV l)) (hT : ∀ g, v.ownBlock = some g → T g) : RInts w T v l := by
  rcases h with ⟨rfl, h⟩ | ⟨g, cap, cur, rfl, hb, hh, h1, h2, h3, h4⟩
  · have : l = [] := by simpa using h
    subst this
    exact RSl.nil_ _ _ _
  · rw [List.length_map] at h1
    refine ⟨some ⟨g, 0, none⟩, cap, by simp, by simpa using h1, by simpa using h3, fun hp => ⟨g, 0, rfl, hT g rfl, fun k hk => ⟨.int .i64 l[k], ?_, rfl⟩⟩⟩
    rw [Nat.zero_add, cell_of_row _ _ k _ _ _ hh]
    have : (zV l)[k]? = some (.int .i64 l[k]) := by simp [hk]
    rw [← h4, List.getElem?_take, if_pos (by simpa using hk)] at this
    simpa using this
theorem zV_shape {w : World} {B : Nat} {t : TypeId} {v : Value} {l : List Int} (h : OwnG w B t v (zV l)) : ∃ A c, v = .slice A l.length c := by
  obtain ⟨A, c, e⟩ := h.shape
  rw [List.length_map] at e
  exact ⟨A, c, e⟩
theorem zV_push {w : World} {B : Nat} {t : TypeId} {v : Value} {l : List Int} {x : Int} (h : OwnG w B t v (zV l ++ [.int .i64 x])) : OwnG w B t v (zV (l ++ [x])) := by
  have e : zV (l ++ [x]) = zV l ++ [.int .i64 x] := by simp
  rw [e]; exact h
set_option maxRecDepth 100000 in
set_option maxHeartbeats 8000000 in
theorem Follows_any {w : World} {s cv : Value} {cls : List (List Int)} {c : List Int} {M : Nat} (hs : RIntss w (Lt w.heap.size) s cls) (hc : RInts w (Lt w.heap.size) cv c) (hM : M ≤ 1000000) (hb : ∀ C ∈ cls, ∀ n ∈ C, n.natAbs ≤ M) (hcb : ∀ n ∈ c, n ≠ 0 ∧ n.natAbs ≤ M)
    (hr : Rup cls c) : Calls Try.prog 26 #[s, cv] w fun e w' => e = .returned (.bool true) ∧ Below w.heap.size w w' := by
  obtain ⟨A, cA, rfl, hm1, hat⟩ := hs.open_
  obtain ⟨A2, c2, rfl, hm2, hat2⟩ := hc.open_
  have Hat := Lib.hid hat
  have Hat2 := Lib.hid hat2
  have Hb := Lib.hid hb
  have Hcb := Lib.hid hcb
  have Hr := Lib.hid hr
  obtain ⟨B0, hB0⟩ : ∃ B0, B0 = w.heap.size := ⟨_, rfl⟩
  have HB0 := Lib.hid hB0
  obtain ⟨N, hN⟩ : ∃ N, N = cls.length := ⟨_, rfl⟩
  have HN := Lib.hid hN
  obtain ⟨K, hK⟩ : ∃ K, K = c.length := ⟨_, rfl⟩
  have HK := Lib.hid hK
  rw [← hN, ← hK, ← hB0]
  rw [← hN] at hm1
  rw [← hK] at hm2
  clear hs hc hat hat2 hb hcb hr hB0 hN hK
  go_enter Try.func26, Try.ntmps26
  go_wp2_with fail
  go_loopw [19, 5] (fun kv yv wr => ∃ (k : Nat) (yes : List Int), k ≤ K ∧ kv = .int .i64 k ∧ Hid (OwnG wr B0 3 yv (zV yes)) ∧ Hid (Below B0 w wr) ∧ Hid (YOk M yes ∧ (∀ n ∈ c.take k, -n ∈ yes))) (fun kv _ _ => K - (intOf kv).toNat)
  case atStart => exact ⟨0, [], Nat.zero_le _, rfl, Lib.hid (OwnG.nil _ _ _), Lib.hid (Below.refl _ _), Lib.hid ⟨⟨List.nodup_nil, by simp⟩, by simp⟩⟩
  case round =>
    obtain ⟨w1, hw1⟩ : ∃ w1 : World, w1 = wr := ⟨_, rfl⟩
    rw [← hw1] at hrel ⊢
    clear hw1
    obtain ⟨k, yes, hkK, rfl, HY, HB1, HI⟩ := hrel
    obtain ⟨Ay, cy, rfl⟩ := zV_shape HY.out
    have hag : Ag (Lt w.heap.size) w w1 := ag_of_below (HB0.out ▸ HB1.out)
    have Hag := Lib.hid hag
    clear hag
    rcases Nat.lt_or_ge k K with hk | hk
    · have hk2 : k < c.length := by rw [← HK.out]; exact hk
      obtain ⟨b, off, u, rfl, hb, hu, hR⟩ := Hat2.out.at_ RInt.stable Hag.out hk2
      obtain rfl := hR
      have Hcm := Lib.hid (List.getElem_mem hk2)
      have Htk := Lib.hid (List.take_succ_eq_append_getElem hk2)
      obtain ⟨n, hn⟩ : ∃ n, n = c[k] := ⟨_, rfl⟩
      rw [← hn] at hu Hcm Htk
      have hn0 := (Hcb.out n Hcm.out).1
      have hnM := (Hcb.out n Hcm.out).2
      have hn1 : -1000000 ≤ n := by omega
      have hn2 : n ≤ 1000000 := by omega
      have z0 : (n != 0) = true := bne_iff_ne.2 hn0
      have HH := Lib.hid (Has_any (.slice Ay yes.length cy) (-n) yes w1 (ints_own (T := fun _ => True) HY.out fun _ _ => trivial))
      have hyl := HI.out.1.len
      obtain ⟨m, hm⟩ : ∃ m, m = yes.length := ⟨_, rfl⟩
      rw [← hm] at HH HY hyl ⊢
      have Hm := Lib.hid hm
      clear hn hm hk2 hb hn0
      by_cases hin : -n ∈ yes
      · rw [has_true hin] at HH
        have Hin := Lib.hid hin
        clear hin
        go_wp2_with (go_at_call 36; with_reducible refine HH.out.mono ?_; rintro e w1 ⟨rfl, rfl⟩)
        go_roundw
        case rel => exact ⟨k + 1, yes, by omega, by go_num, HY, HB1, Lib.hid ⟨HI.out.1, fun x hx => by
          rw [Htk.out] at hx
          rcases List.mem_append.1 hx with h | h
          · exact HI.out.2 x h
          · rw [List.mem_singleton.1 h]; exact Hin.out⟩⟩
        case measure => simp [intOf]; omega
      · rw [has_false hin] at HH
        have Hin := Lib.hid hin
        clear hin
        go_wp2_with (first
          | (go_at_call 36; with_reducible refine HH.out.mono ?_; rintro e w1 ⟨rfl, rfl⟩)
          | (at_builtin; go_loud (refine wpList_pushG rfl _ _ _ rfl eInt (v := .slice Ay m cy) rfl (HY.out.kp fun _ _ => kp_new (below_alloc _ _) _) w1.heap.size (.int .i64 (-n)) rfl (one_new w1 _ _) rfl (by rw [List.length_map, ← Hm.out]; omega) (by have := HB1.out.size; rw [← HB0.out] at this; simp; omega) ?_; intro v' w2 hown hgr hnn; (have HY2 := Lib.hid (zV_push hown); have HG2 := Lib.hid hgr; clear hown hgr hnn))))
        have hB01 : B0 ≤ w1.heap.size := by have := HB1.out.size; rw [← HB0.out] at this; exact this
        have HB2 := Lib.hid (show Below B0 w w2 from (HB1.out.alloc hB01 _).grown HG2.out (by simp; omega) fun x hx => (HY.out.lt x hx).1)
        go_roundw
        case rel => exact ⟨k + 1, yes ++ [-n], by omega, by go_num, HY2, HB2, Lib.hid ⟨HI.out.1.snoc (by have := (Hcb.out n Hcm.out).1; omega) (by omega) Hin.out, fun x hx => by
          rw [Htk.out] at hx
          rcases List.mem_append.1 hx with h | h
          · exact List.mem_append_left _ (HI.out.2 x h)
          · rw [List.mem_singleton.1 h]; simp⟩⟩
        case measure => simp [intOf]; omega
    · obtain rfl : k = K := by omega
      have HI2 := Lib.hid (show YOk M yes ∧ ∀ n ∈ c, -n ∈ yes from ⟨HI.out.1, by have := HI.out.2; rw [HK.out, List.take_length] at this; exact this⟩)
      clear HI Hcb Hat2
      go_wp2_with fail
      go_loopg [5] (2 * M + 2 - yes.length) (fun gk yv wr => ∃ yes2, Hid (OwnG wr B0 3 yv (zV yes2)) ∧ Hid (Below B0 w wr) ∧ Hid (YOk M yes2 ∧ (∀ n ∈ c, -n ∈ yes2) ∧ gk = 2 * M + 2 - yes2.length))
      case atStart => exact ⟨yes, HY, HB1, Lib.hid ⟨HI2.out.1, HI2.out.2, rfl⟩⟩
      case round =>
        clear HY HB1 HI2 Hag
        obtain ⟨w1, hw1⟩ : ∃ w1 : World, w1 = wr := ⟨_, rfl⟩
        rw [← hw1] at hrel ⊢
        clear hw1
        obtain ⟨yes, HY, HB1, HI⟩ := hrel
        obtain ⟨Ay, cy, rfl⟩ := zV_shape HY.out
        obtain ⟨m, hm⟩ : ∃ m, m = yes.length := ⟨_, rfl⟩
        have Hm := Lib.hid hm
        have hm9 : m ≤ 2000001 := by have := HI.out.1.len; omega
        rw [← hm] at HY ⊢
        clear hm
        have hyrd : m = 0 ∨ ∃ g, Ay = some ⟨g, 0, none⟩ := by
          rcases Nat.eq_zero_or_pos m with h | h
          · exact .inl h
          · obtain ⟨g, cap, e, -⟩ := HY.out.form (by simp [← Hm.out]; omega)
            cases e
            exact .inr ⟨g, rfl⟩
        go_wp2_with fail
        go_loop [40] (fun jv => ∃ j : Nat, j ≤ m ∧ jv = .int .i64 j ∧ Hid (∀ x ∈ yes.take j, -x ∉ yes)) (fun jv => m - (intOf jv).toNat)
        case atStart => exact ⟨0, Nat.zero_le _, rfl, Lib.hid (by simp)⟩
        case round =>
          obtain ⟨j, hjm, rfl, HJ⟩ := hrel
          rcases Nat.lt_or_ge j m with hj | hj
          · obtain ⟨g, rfl⟩ := hyrd.resolve_left (by omega)
            have hj2 : j < yes.length := by rw [← Hm.out]; exact hj
            have Htk := Lib.hid (List.take_succ_eq_append_getElem hj2)
            have hbd := HI.out.1.bd _ (List.getElem_mem hj2)
            have hu : w1.cell? ⟨g, j, none⟩ = some (.int .i64 yes[j]) := HY.out.cell (by simp [hj2])
            obtain ⟨n, hn⟩ : ∃ n, n = yes[j] := ⟨_, rfl⟩
            rw [← hn] at hu Htk hbd
            have hn1 : -1000000 ≤ n := by omega
            have hn2 : n ≤ 1000000 := by omega
            have HH := Lib.hid (Has_any (.slice (some ⟨g, 0, none⟩) m cy) (-n) yes w1 (ints_own (T := fun _ => True) HY.out fun _ _ => trivial))
            clear hn hj2 hbd
            by_cases hin : -n ∈ yes
            · rw [has_true hin] at HH
              clear hin
              go_wp2_with (go_at_call 36; with_reducible refine HH.out.mono ?_; rintro e w1 ⟨rfl, rfl⟩)
              go_ret
              exact ⟨rfl, HB1.out⟩
            · rw [has_false hin] at HH
              have Hin := Lib.hid hin
              clear hin
              go_wp2_with (go_at_call 36; with_reducible refine HH.out.mono ?_; rintro e w1 ⟨rfl, rfl⟩)
              go_round
              case rel => exact ⟨j + 1, by omega, by go_num, Lib.hid fun x hx => by
                rw [Htk.out] at hx
                rcases List.mem_append.1 hx with h | h
                · exact HJ.out x h
                · rw [List.mem_singleton.1 h]; exact Hin.out⟩
              case measure => simp [intOf]; omega
          · obtain rfl : j = m := by omega
            have HJ2 := Lib.hid (show ∀ x ∈ yes, -x ∉ yes by have := HJ.out; rw [Hm.out, List.take_length] at this; exact this)
            clear HJ
            go_wp2_with fail
            go_loopw [51, 10, 5] (fun iv fv yv wr => ∃ (i : Nat) (yes2 : List Int) (fd : Bool), i ≤ N ∧ iv = .int .i64 i ∧ fv = .bool fd ∧ Hid (OwnG wr B0 3 yv (zV yes2)) ∧ Hid (Below B0 w wr) ∧ Hid (YOk M yes2 ∧ (∀ x ∈ yes, x ∈ yes2) ∧ (fd = false → yes2 = yes ∧ ∀ C ∈ cls.take i, ClR yes C) ∧ (fd = true → yes.length < yes2.length))) (fun iv _ _ _ => N - (intOf iv).toNat)
            case atStart => exact ⟨0, yes, false, Nat.zero_le _, rfl, rfl, HY, HB1, Lib.hid ⟨HI.out.1, fun _ h => h, fun _ => ⟨rfl, by simp⟩, by simp⟩⟩
            case round =>
              obtain ⟨w2, hw2⟩ : ∃ w2 : World, w2 = wr := ⟨_, rfl⟩
              rw [← hw2] at hrel ⊢
              clear hw2
              obtain ⟨i, yes2, fd, hiN, rfl, rfl, HY2, HB2, HI2⟩ := hrel
              obtain ⟨Ay2, cy2, rfl⟩ := zV_shape HY2.out
              obtain ⟨m2, hm2'⟩ : ∃ m2, m2 = yes2.length := ⟨_, rfl⟩
              have Hm2 := Lib.hid hm2'
              have hm29 : m2 ≤ 2000001 := by have := HI2.out.1.len; omega
              rw [← hm2'] at HY2 ⊢
              clear hm2'
              rcases Nat.lt_or_ge i N with hi | hi
              · have hi2 : i < cls.length := by rw [← HN.out]; exact hi
                obtain ⟨b, off, u, rfl, hb, hu, hR⟩ := Hat.out.at_ RInts.stable (ag_of_below (HB0.out ▸ HB2.out)) hi2
                have HRC := hR
                obtain ⟨AC, cC, rfl, hcC, hmC, hmC2, hatC⟩ := hR.open2
                have HatC := Lib.hid hatC
                have Hcm := Lib.hid (List.getElem_mem hi2)
                have Htk := Lib.hid (List.take_succ_eq_append_getElem hi2)
                obtain ⟨C, hC⟩ : ∃ C, C = cls[i] := ⟨_, rfl⟩
                rw [← hC] at hu Hcm Htk HRC HatC hmC hcC
                obtain ⟨L, hL⟩ : ∃ L, L = C.length := ⟨_, rfl⟩
                have HL := Lib.hid hL
                rw [← hL] at hu hmC hcC HRC
                have HRCh := Lib.hid HRC
                clear hR hatC hC hb hi2 hL HRC
                go_wp2_with fail
                go_loop [57, 13, 14] (fun jv lv ov => ∃ j : Nat, j ≤ L ∧ jv = .int .i64 j ∧ lv = .int .i64 ((lo yes2 C j).1 : Nat) ∧ ov = .int .i64 (lo yes2 C j).2) (fun jv _ _ => L - (intOf jv).toNat)
                case atStart => exact ⟨0, Nat.zero_le _, rfl, rfl, rfl⟩
                case round =>
                  obtain ⟨j, hjL, rfl, rfl, rfl⟩ := hrel
                  rcases Nat.lt_or_ge j L with hjl | hjl
                  · have hj2 : j < C.length := by rw [← HL.out]; exact hjl
                    have hjc : j ≤ cC := by omega
                    have hc0 : ¬ cC = 0 := by omega
                    obtain ⟨bC, oC_, uC, rfl, hbC, huC, hRC⟩ := HatC.out.at_ RInt.stable (Ag.refl _ _) hj2
                    obtain rfl := hRC
                    have hgd : C.getD j 0 = C[j] := by rw [List.getD_eq_getElem?_getD, List.getElem?_eq_getElem hj2]; rfl
                    have hnM := Hb.out C Hcm.out _ (List.getElem_mem hj2)
                    have hll := lo_le yes2 C j
                    have hlo : lo yes2 C (j + 1) = if C.getD j 0 ≠ 0 ∧ -(C.getD j 0) ∉ yes2 ∧ C.getD j 0 ∉ C.take j then ((lo yes2 C j).1 + 1, C.getD j 0) else lo yes2 C j := rfl
                    rw [hgd] at hlo
                    obtain ⟨n, hn⟩ : ∃ n, n = C[j] := ⟨_, rfl⟩
                    rw [← hn] at huC hnM hlo
                    have hn1 : -1000000 ≤ n := by omega
                    have hn2 : n ≤ 1000000 := by omega
                    obtain ⟨q1, hq1⟩ : ∃ q, q = (lo yes2 C j).1 := ⟨_, rfl⟩
                    obtain ⟨q2, hq2⟩ : ∃ q, q = (lo yes2 C j).2 := ⟨_, rfl⟩
                    have hq12 : lo yes2 C j = (q1, q2) := by rw [hq1, hq2]
                    rw [hq12] at hlo
                    rw [← hq1] at hll
                    rw [← hq1, ← hq2]
                    have HLo := Lib.hid hlo
                    have HH1 := Lib.hid (Has_any (.slice Ay2 m2 cy2) (-n) yes2 w2 (ints_own (T := fun _ => True) HY2.out fun _ _ => trivial))
                    have HH2 := Lib.hid (Has_any (.slice (some ⟨bC, oC_, none⟩) j cC) n (C.take j) w2 (HRCh.out.taken (by omega)))
                    clear hn hgd hj2 hlo hq1 hq2 hq12 hbC
                    by_cases h0 : n = 0
                    · have z0 : (n != 0) = false := by rw [h0]; rfl
                      rw [if_neg (fun h => h.1 h0)] at HLo
                      clear h0
                      go_wp2_with fail
                      go_round
                      case rel => exact ⟨j + 1, by omega, by go_num, by rw [HLo.out], by rw [HLo.out]⟩
                      case measure => simp [intOf]; omega
                    have z0 : (n != 0) = true := bne_iff_ne.2 h0
                    by_cases h1 : -n ∈ yes2
                    · rw [has_true h1] at HH1
                      rw [if_neg (fun h => h.2.1 h1)] at HLo
                      clear h0 h1
                      go_wp2_with (go_at_call 36; with_reducible refine HH1.out.mono ?_; rintro e w2 ⟨rfl, rfl⟩)
                      go_round
                      case rel => exact ⟨j + 1, by omega, by go_num, by rw [HLo.out], by rw [HLo.out]⟩
                      case measure => simp [intOf]; omega
                    rw [has_false h1] at HH1
                    by_cases h2 : n ∈ C.take j
                    · rw [has_true h2] at HH2
                      rw [if_neg (fun h => h.2.2 h2)] at HLo
                      clear h0 h1 h2
                      go_wp2_with (first
                        | (go_at_call 36; with_reducible refine HH1.out.mono ?_; rintro e w2 ⟨rfl, rfl⟩)
                        | (go_at_call 36; with_reducible refine HH2.out.mono ?_; rintro e w2 ⟨rfl, rfl⟩))
                      go_round
                      case rel => exact ⟨j + 1, by omega, by go_num, by rw [HLo.out], by rw [HLo.out]⟩
                      case measure => simp [intOf]; omega
                    rw [has_false h2] at HH2
                    rw [if_pos ⟨h0, h1, h2⟩] at HLo
                    clear h0 h1 h2
                    go_wp2_with (first
                      | (go_at_call 36; with_reducible refine HH1.out.mono ?_; rintro e w2 ⟨rfl, rfl⟩)
                      | (go_at_call 36; with_reducible refine HH2.out.mono ?_; rintro e w2 ⟨rfl, rfl⟩))
                    go_round
                    case rel => exact ⟨j + 1, by omega, by go_num, by rw [HLo.out]; go_num, by rw [HLo.out]⟩
                    case measure => simp [intOf]; omega
                  · obtain rfl : j = L := by omega
                    obtain ⟨q1, hq1⟩ : ∃ q, q = (lo yes2 C j).1 := ⟨_, rfl⟩
                    obtain ⟨q2, hq2⟩ : ∃ q, q = (lo yes2 C j).2 := ⟨_, rfl⟩
                    have Hq1 := Lib.hid hq1
                    have Hq2 := Lib.hid hq2
                    have hqj := lo_le yes2 C j
                    rw [← hq1] at hqj
                    rw [← hq1, ← hq2]
                    clear hq1 hq2
                    have HCl := Lib.hid (fun (h : q1 ≠ 0) (h2 : q1 = 1 → q2 ∈ yes2) => show ClR yes2 C from ⟨by rw [← HL.out, ← Hq1.out]; exact h, by rw [← HL.out, ← Hq1.out, ← Hq2.out]; exact h2⟩)
                    have Hnx := Lib.hid (fun (h : ClR yes2 C) (hf : fd = false) => show yes2 = yes ∧ ∀ D ∈ cls.take (i + 1), ClR yes D from ⟨(HI2.out.2.2.1 hf).1, fun D hD => by
                      rw [Htk.out] at hD
                      rcases List.mem_append.1 hD with k | k
                      · exact (HI2.out.2.2.1 hf).2 D k
                      · rw [List.mem_singleton.1 k, ← (HI2.out.2.2.1 hf).1]; exact h⟩)
                    rcases Nat.eq_zero_or_pos q1 with h0 | h0
                    · have z0 : ((q1 : Int) == 0) = true := by rw [h0]; rfl
                      clear h0
                      go_wp2_with fail
                      go_ret
                      exact ⟨rfl, HB2.out⟩
                    have z0 : ((q1 : Int) == 0) = false := beq_eq_false_iff_ne.2 (by omega)
                    by_cases h1 : q1 = 1
                    · have z1 : ((q1 : Int) == 1) = true := by rw [h1]; rfl
                      have HH := Lib.hid (Has_any (.slice Ay2 m2 cy2) q2 yes2 w2 (ints_own (T := fun _ => True) HY2.out fun _ _ => trivial))
                      have hp := lo_pos (yes := yes2) (C := C) (j := j) (by rw [← HL.out]; exact Nat.le_refl _) (by rw [← Hq1.out]; omega)
                      rw [← Hq2.out] at hp
                      have hqC : q2 ∈ C := List.mem_of_mem_take hp.1
                      have hqM := Hb.out C Hcm.out q2 hqC
                      have hq0 := hp.2.1
                      clear hp hqC
                      by_cases h2 : q2 ∈ yes2
                      · rw [has_true h2] at HH
                        have H2 := Lib.hid h2
                        clear h1 h2
                        go_wp2_with (go_at_call 36; with_reducible refine HH.out.mono ?_; rintro e w2 ⟨rfl, rfl⟩)
                        go_roundw
                        case rel => exact ⟨i + 1, yes2, fd, by omega, by go_num, rfl, HY2, HB2, Lib.hid ⟨HI2.out.1, HI2.out.2.1, Hnx.out (HCl.out (by omega) fun _ => H2.out), HI2.out.2.2.2⟩⟩
                        case measure => simp [intOf]; omega
                      · rw [has_false h2] at HH
                        have H2 := Lib.hid h2
                        have hB02 : B0 ≤ w2.heap.size := by have := HB2.out.size; rw [← HB0.out] at this; exact this
                        clear h1 h2
                        go_wp2_with (first
                          | (go_at_call 36; with_reducible refine HH.out.mono ?_; rintro e w2 ⟨rfl, rfl⟩)
                          | (at_builtin; go_loud (refine wpList_pushG rfl _ _ _ rfl eInt (v := .slice Ay2 m2 cy2) rfl (HY2.out.kp fun _ _ => kp_new (below_alloc _ _) _) w2.heap.size (.int .i64 q2) rfl (one_new w2 _ _) rfl (by rw [List.length_map, ← Hm2.out]; omega) (by simp; omega) ?_; intro v' w3 hown hgr hnn; (have HY3 := Lib.hid (zV_push hown); have HG3 := Lib.hid hgr; clear hown hgr hnn))))
                        have HB3 := Lib.hid (show Below B0 w w3 from (HB2.out.alloc hB02 _).grown HG3.out (by simp; omega) fun x hx => (HY2.out.lt x hx).1)
                        go_roundw
                        case rel => exact ⟨i + 1, yes2 ++ [q2], true, by omega, by go_num, rfl, HY3, HB3, Lib.hid ⟨HI2.out.1.snoc hq0 hqM H2.out, fun x hx => List.mem_append_left _ (HI2.out.2.1 x hx), fun h => (by cases h), fun _ => by
                          have h1 := HI2.out.2.2.1
                          have h2 := HI2.out.2.2.2
                          rw [List.length_append, List.length_singleton]
                          cases fd with
                          | false => rw [(h1 rfl).1]; omega
                          | true => have := h2 rfl; omega⟩⟩
                        case measure => simp [intOf]; omega
                    · have z1 : ((q1 : Int) == 1) = false := beq_eq_false_iff_ne.2 (by omega)
                      go_wp2_with fail
                      go_roundw
                      case rel => exact ⟨i + 1, yes2, fd, by omega, by go_num, rfl, HY2, HB2, Lib.hid ⟨HI2.out.1, HI2.out.2.1, Hnx.out (HCl.out (by omega) fun h => (h1 h).elim), HI2.out.2.2.2⟩⟩
                      case measure => simp [intOf]; omega
              · obtain rfl : i = N := by omega
                cases fd with
                | false =>
                  exfalso
                  obtain ⟨e1, e2⟩ := HI2.out.2.2.1 rfl
                  rw [HN.out, List.take_length] at e2
                  exact Hr.out _ (clo_of e2 HJ2.out) fun n hn => HI.out.2.1 n hn
                | true =>
                  have hlt := HI2.out.2.2.2 rfl
                  have hle := HI2.out.1.len
                  have Hgk := Lib.hid HI.out.2.2
                  have HYn := Lib.hid (show YOk M yes2 ∧ (∀ n ∈ c, -n ∈ yes2) from ⟨HI2.out.1, fun n hn => HI2.out.2.1 _ (HI.out.2.1 n hn)⟩)
                  go_wp2_with fail
                  go_roundg (2 * M + 2 - yes2.length)
                  case rel => exact ⟨yes2, HY2, HB2, Lib.hid ⟨HYn.out.1, HYn.out.2, rfl⟩⟩
                  case measure => rw [Hgk.out]; omega
end Go.Proofs.Ytdofiipckcfopaa.S15

namespace Go.Proofs.Ytdofiipckcfopaa.S15
open Go.RowKit

/-- the values of a row's cells -/
theorem _root_.Go.Proofs.Ytdofiipckcfopaa.RAt.vals {α : Type} {R : Rd α} {w : World} {T : Nat → Prop} {A : Option Addr} {l : List α} (h : RAt R w T A l) (hp : 0 < l.length) : ∃ (b off : Nat) (xs : List Value), A = some ⟨b, off, none⟩ ∧ T b ∧ xs.length = l.length ∧ (∀ j u, xs[j]? = some u → w.cell? ⟨b, off + j, none⟩ = some u) ∧ ∀ j (hj : j < l.length) u, xs[j]? = some u → R w T u l[j] := by
  obtain ⟨b, off, e, hb, hc⟩ := h hp
  obtain ⟨xs, hx, hx2⟩ := choose_list (n := l.length) (p := fun k u => ∀ hk : k < l.length, w.cell? ⟨b, off + k, none⟩ = some u ∧ R w T u l[k]) (fun i hi => by
    obtain ⟨u, h1, h2⟩ := hc i hi
    exact ⟨u, fun _ => ⟨h1, h2⟩⟩)
  refine ⟨b, off, xs, e, hb, hx, fun j u hu => ?_, fun j hj u hu => ?_⟩
  · obtain ⟨hj, rfl⟩ := List.getElem?_eq_some_iff.1 hu
    exact (hx2 j hj (by omega)).1
  · obtain ⟨hj2, rfl⟩ := List.getElem?_eq_some_iff.1 hu
    exact (hx2 j hj2 hj).2
theorem reads_own {α : Type} {R : Rd α} {w : World} {T : Nat → Prop} {B : Nat} {t : TypeId} {v : Value} {xs : List Value} {l : List α} (h : OwnG w B t v xs) (hl : l.length = xs.length) (hT : ∀ g, v.ownBlock = some g → T g)
    (hR : ∀ k (h : k < l.length) u, xs[k]? = some u → R w T u l[k]) : RSl R w T v l := by
  rcases h with ⟨rfl, rfl⟩ | ⟨g, cap, cur, rfl, hb, hh, h1, h2, h3, h4⟩
  · have : l = [] := List.eq_nil_of_length_eq_zero (by simpa using hl)
    subst this
    exact RSl.nil_ _ _ _
  · refine ⟨some ⟨g, 0, none⟩, cap, by rw [hl], by omega, h3, fun hp => ⟨g, 0, rfl, hT g rfl, fun k hk => ?_⟩⟩
    obtain ⟨x, hx⟩ : ∃ x, xs[k]? = some x := ⟨_, List.getElem?_eq_getElem (by omega)⟩
    have hk2 : k < xs.length := by omega
    refine ⟨x, ?_, hR k hk _ hx⟩
    rw [Nat.zero_add, cell_of_row _ _ k _ _ _ hh]
    rw [← h4, List.getElem?_take, if_pos hk2] at hx
    simpa using hx
set_option maxRecDepth 100000 in
set_option maxHeartbeats 8000000 in
theorem Check_any {w : World} {s pv : Value} {cls p p' : List (List Int)} {M : Nat} (hs : RIntss w (Lt w.heap.size) s cls) (hp : RIntss w (Lt w.heap.size) pv p) (hM : M ≤ 1000000) (hb : ∀ C ∈ cls, ∀ n ∈ C, n.natAbs ≤ M) (hpb : ∀ C ∈ p, ∀ n ∈ C, n ≠ 0 ∧ n.natAbs ≤ M)
    (hl : cls.length ≤ 100000) (hpl : p.length ≤ 100000000) (hr : RupAll cls p) (he : p = p' ++ [[]]) : Calls Try.prog 18 #[s, pv] w fun e w' => e = .returned (.int .i64 (-1)) ∧ Below w.heap.size w w' := by
  obtain ⟨A, cA, rfl, hcA, hm1, -, hat⟩ := hs.open2
  obtain ⟨A2, c2, rfl, hc2, hm2, -, hat2⟩ := hp.open2
  have Hat2 := Lib.hid hat2
  have Hb := Lib.hid hb
  have Hpb := Lib.hid hpb
  have Hr := Lib.hid hr
  have He := Lib.hid he
  have Hs := Lib.hid hs
  have Hat := Lib.hid hat
  obtain ⟨B0, hB0⟩ : ∃ B0, B0 = w.heap.size := ⟨_, rfl⟩
  have HB0 := Lib.hid hB0
  obtain ⟨N, hN⟩ : ∃ N, N = cls.length := ⟨_, rfl⟩
  have HN := Lib.hid hN
  obtain ⟨K, hK⟩ : ∃ K, K = p.length := ⟨_, rfl⟩
  have HK := Lib.hid hK
  have hK1 : 1 ≤ K := by rw [hK, he]; simp
  rw [← hN, ← hK, ← hB0]
  rw [← hN] at hm1 hcA hl
  rw [← hK] at hm2 hc2 hpl
  clear hs hp hat hat2 hb hpb hr he hB0 hN hK
  have HA : Hid (A = none ∨ ∃ q, A = some q) := Lib.hid (by
    cases A with
    | none => exact .inl rfl
    | some q => exact .inr ⟨q, rfl⟩)
  go_enter Try.func18, Try.ntmps18
  go_upto_region 1 with fail
  go_cut [5] (fun v5 wx => ∃ xs : List Value, Hid (OwnG wx B0 27 v5 xs) ∧ Hid (Below B0 w wx) ∧ Hid (xs.length = cls.length ∧ ∀ j (hj : j < cls.length) u, xs[j]? = some u → RInts w (Lt w.heap.size) u cls[j]))
  case first =>
    have hown0 := World.ownsRow_lit (base := w.heap.size) (e := 27) (size := 1) w #[] 0 (Nat.le_refl _) (by unfold maxLen; omega) rfl
    have Hown0 := Lib.hid hown0
    have HBa := Lib.hid (show Below B0 w (w.alloc (.cells #[] 27)) by rw [HB0.out]; exact below_alloc _ _)
    clear hown0
    rcases Nat.eq_zero_or_pos N with h0 | h0
    · subst h0
      have Hnil := Lib.hid (show ([] : List Value).length = cls.length ∧ ∀ j (hj : j < cls.length) u, ([] : List Value)[j]? = some u → RInts w (Lt w.heap.size) u cls[j] from ⟨HN.out, fun j hj => by rw [← HN.out] at hj; omega⟩)
      rcases HA.out with rfl | ⟨q, rfl⟩
      · go_wp2_with fail
        go_meet
        case rel => exact ⟨[], Lib.hid (by rw [HB0.out]; exact OwnG.of_own Hown0.out), HBa, Hnil⟩
      · go_wp2_with fail
        go_meet
        case rel => exact ⟨[], Lib.hid (by rw [HB0.out]; exact OwnG.of_own Hown0.out), HBa, Hnil⟩
    · obtain ⟨b, off, xs, rfl, hb, hxl, hxc, hxr⟩ := Hat.out.vals (by rw [← HN.out]; exact h0)
      have Hxl := Lib.hid hxl
      have Hxc := Lib.hid hxc
      have Hxr := Lib.hid hxr
      have HXs := Lib.hid (show ∀ u ∈ xs, u.oneCell' = true by
        intro u hu
        obtain ⟨j, hj⟩ := List.mem_iff_getElem?.1 hu
        obtain ⟨A', c', he, -⟩ := hxr j (by have := (List.getElem?_eq_some_iff.1 hj).1; omega) u hj
        rw [he]; rfl)
      clear hxl hxc hxr hb
      go_wp2_with (at_builtin; go_loud (refine wpList_appendL rfl _ _ _ rfl eRows (v := .slice (some ⟨w.heap.size, 0, none⟩) 0 0) rfl Hown0.out ⟨b, off, none⟩ N cA xs rfl (by rw [Hxl.out, HN.out]) (fun j u hu => ?hcell) HXs.out (by omega) (by simp) ?_); rotate_left 1; intro v1 w3 hown1 hg1 hat1)
      case hcell =>
        have := Hxc.out j u hu
        have hb := World.block_lt_of_cell? w _ this
        rw [World.cell?_alloc_lt _ _ _ hb]
        exact this
      go_meet
      case rel => exact ⟨xs, Lib.hid (by rw [HB0.out]; simpa using OwnG.of_own hown1), Lib.hid (HBa.out.grown hg1 (by rw [HB0.out]; simp) (fun k hk => by simp [Value.ownBlock] at hk; rw [HB0.out]; omega)), Lib.hid ⟨Hxl.out, Hxr.out⟩⟩
  case rest =>
    obtain ⟨xs, HX, HB1, HXr⟩ := hcut
    obtain ⟨w1, hw1⟩ : ∃ w1 : World, w1 = wc := ⟨_, rfl⟩
    rw [← hw1] at HX HB1 ⊢
    clear hw1
    go_wp2_with fail
    go_loopw [13, 5] (fun iv av wr => ∃ (i : Nat) (ys : List Value), i ≤ K ∧ iv = .int .i64 i ∧ Hid (OwnG wr B0 27 av ys) ∧ Hid (Below B0 w wr) ∧ Hid (ys.length = (cls ++ p.take i).length ∧ ∀ j (hj : j < (cls ++ p.take i).length) u, ys[j]? = some u → RInts w (Lt w.heap.size) u (cls ++ p.take i)[j])) (fun iv _ _ => K - (intOf iv).toNat)
    case atStart => exact ⟨0, xs, Nat.zero_le _, rfl, HX, HB1, Lib.hid (by simpa using HXr.out)⟩
    case round =>
      clear HX HB1 HXr
      obtain ⟨w2, hw2⟩ : ∃ w2 : World, w2 = wr := ⟨_, rfl⟩
      rw [← hw2] at hrel ⊢
      clear hw2
      obtain ⟨i, ys, hiK, rfl, HY, HB2, HYr⟩ := hrel
      obtain ⟨Ay, cy, hye⟩ := HY.out.shape
      obtain ⟨m, hm⟩ : ∃ m, m = ys.length := ⟨_, rfl⟩
      rw [← hm] at hye
      subst hye
      have Hm := Lib.hid hm
      have hm9 : m ≤ 200000000 := by have h1 := HYr.out.1; have h2 := HN.out; rw [hm, h1]; simp; omega
      have hB2s : B0 ≤ w2.heap.size := by have := HB2.out.size; rw [← HB0.out] at this; exact this
      clear hm
      rcases Nat.lt_or_ge i K with hi | hi
      · have hi2 : i < p.length := by rw [← HK.out]; exact hi
        obtain ⟨b, off, u, rfl, hb, hu, hR⟩ := Hat2.out.at_ RInts.stable (ag_of_below (HB0.out ▸ HB2.out)) hi2
        have hRw : RInts w (Lt w.heap.size) u p[i] := by
          obtain ⟨b4, o4, u4, e4, h4, h5, h6⟩ := Hat2.out.lt_ hi2
          cases e4
          have := (HB2.out.cell (p := ⟨b, off + i, none⟩) (by rw [HB0.out]; exact h4)).trans h5
          rw [this] at hu
          cases hu
          exact h6
        obtain ⟨Au, cu, rfl, -⟩ := hR.open_
        have hRd : RIntss w2 (Lt w2.heap.size) (.slice Ay m cy) (cls ++ p.take i) := reads_own HY.out HYr.out.1.symm (fun g hg => (HY.out.lt g hg).2) fun j hj v hv => by
          exact RInts.stable _ _ _ _ _ _ (HYr.out.2 j hj v hv) (ag_of_below (HB0.out ▸ HB2.out)) fun x (hx : x < _) => (by have := HB0.out; show x < w2.heap.size; omega)
        have hF := Follows_any hRd (RInts.stable.sub hR fun x (hx : x < _) => (by have := HB0.out; show x < w2.heap.size; omega)) hM (fun C hC n hn => by
          rcases List.mem_append.1 hC with k | k
          · exact Hb.out C k n hn
          · exact (Hpb.out C (List.mem_of_mem_take k) n hn).2) (Hpb.out _ (List.getElem_mem hi2)) (Hr.out i p[i] (List.getElem?_eq_getElem hi2))
        have HF := Lib.hid hF
        have HRw := Lib.hid hRw
        have Htk := Lib.hid (List.take_succ_eq_append_getElem hi2)
        obtain ⟨L, hL⟩ : ∃ L, L = p[i].length := ⟨_, rfl⟩
        rw [← hL] at HF hu HRw
        obtain ⟨pi, hpi⟩ : ∃ c, c = p[i] := ⟨_, rfl⟩
        rw [← hpi] at HRw Htk
        clear hR hRd hF hRw hL hpi hb hi2
        go_wp2_with (first
          | (go_at_call 26; with_reducible refine HF.out.mono ?_; rintro e w3 ⟨rfl, b3⟩; go_loud (have HB3 := Lib.hid (HB2.out.trans (b3.mono hB2s)); have HY3 := Lib.hid (HY.out.kp fun g hg => kp_new b3 g); have hB3s := Nat.le_trans hB2s b3.size; clear b3))
          | (at_builtin; go_loud (refine wpList_pushG rfl _ _ _ rfl eRows (v := .slice Ay m cy) rfl (HY3.out.kp fun _ _ => kp_new (below_alloc _ _) _) w3.heap.size (.slice Au L cu) rfl (one_new w3 _ _) rfl (by rw [← Hm.out]; omega) (by simp; omega) ?_; intro v' w4 hown hgr hnn; (have HY4 := Lib.hid hown; have HG4 := Lib.hid hgr; clear hown hgr hnn))))
        have HB4 := Lib.hid (show Below B0 w w4 from (HB3.out.alloc hB3s _).grown HG4.out (by simp; omega) fun x hx => (HY3.out.lt x hx).1)
        go_roundw
        case rel => exact ⟨i + 1, _, by omega, by go_num, HY4, HB4, Lib.hid (by
          rw [Htk.out, ← List.append_assoc]
          refine ⟨by rw [List.length_append, HYr.out.1, List.length_append (bs := [pi])]; rfl, fun j hj v hv => ?_⟩
          rcases Nat.lt_or_ge j (cls ++ p.take i).length with k | k
          · rw [List.getElem_append_left k]
            rw [List.getElem?_append_left (by rw [HYr.out.1]; exact k)] at hv
            exact HYr.out.2 j k v hv
          · have hj2 : j = (cls ++ p.take i).length := by rw [List.length_append (bs := [pi])] at hj; simp at hj ⊢; simp at k; omega
            subst hj2
            rw [List.getElem?_append_right (by rw [HYr.out.1]; exact Nat.le_refl _), HYr.out.1, Nat.sub_self] at hv
            simp at hv
            subst hv
            simp only [List.getElem_append_right (Nat.le_refl _), Nat.sub_self, List.getElem_singleton]
            exact HRw.out)⟩
        case measure => simp [intOf]; omega
      · obtain rfl : i = K := by omega
        have hk2 : i - 1 < p.length := by rw [← HK.out]; omega
        obtain ⟨b, off, u, rfl, hb, hu, hR⟩ := Hat2.out.at_ RInts.stable (ag_of_below (HB0.out ▸ HB2.out)) hk2
        have hlast : p[i - 1] = [] := by
          have h1 := He.out
          have h2 : i = p'.length + 1 := by rw [HK.out, h1]; simp
          have h3 : p[i - 1]? = some [] := by rw [h1, h2]; simp
          rw [List.getElem?_eq_getElem hk2] at h3
          exact Option.some.inj h3
        rw [hlast] at hR
        obtain ⟨Au, cu, rfl, -⟩ := hR.open_
        have hz1 : ((i : Int) == 0) = false := beq_eq_false_iff_ne.2 (by omega)
        have hu2 : w2.cell? ⟨b, off + (i - 1), none⟩ = some (.slice Au 0 cu) := hu
        clear hlast hR hk2 hb hu
        go_wp2_with fail
        go_ret
        exact ⟨rfl, HB2.out⟩
end Go.Proofs.Ytdofiipckcfopaa.S15
