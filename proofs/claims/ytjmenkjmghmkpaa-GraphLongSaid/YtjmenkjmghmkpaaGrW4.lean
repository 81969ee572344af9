/- graph.Reach: which nodes can be come to. -/
import Derived.Test.YtjmenkjmghmkpaaGrW3
namespace Go.Proofs.Ytjmenkjmghmkpaa
open Go.RowKit
open G22

def reachTo (d : List Int) (k : Nat) : List Nat := (List.range k).filter fun n => decide (0 ≤ dd d n)
def reachL (d : List Int) : List Nat := reachTo d d.length
theorem reachTo_succ (d : List Int) (k : Nat) : reachTo d (k + 1) = reachTo d k ++ if 0 ≤ dd d k then [k] else [] := by
  unfold reachTo
  rw [List.range_succ, List.filter_append]
  congr 1
  by_cases h : 0 ≤ dd d k
  · rw [if_pos h, List.filter_cons, decide_eq_true h]; rfl
  · rw [if_neg h, List.filter_cons, decide_eq_false h]; rfl
theorem reachTo_length (d : List Int) (k : Nat) : (reachTo d k).length ≤ k := by
  have := List.length_filter_le (fun n => decide (0 ≤ dd d n)) (List.range k)
  simpa [reachTo] using this
def ReachPost (G : Gr) (a : Nat) (w : World) (e : Ending) (w' : World) : Prop :=
  ∃ d v, IsDepth G a d ∧ e = .returned v ∧ RNats w' (Lt w'.heap.size) v (reachL d) ∧ Below w.heap.size w w'
theorem nats_of_own {w : World} {S : Nat → Prop} {base : Nat} {e : TypeId} {v : Value} {l : List Nat} (h : w.ownsRow base e 1 v l.length (l.map natV)) (hS : ∀ g, v.ownBlock = some g → S g) : RNats w S v l :=
  reads_of_own h rfl hS fun k hk u hu => by rw [List.getElem?_map, List.getElem?_eq_getElem hk] at hu; simpa [RNat, eq_comm] using hu
theorem own_lt {w : World} {base : Nat} {e : TypeId} {size : Nat} {v : Value} {n : Nat} {xs : List Value} (h : w.ownsRow base e size v n xs) : ∀ g, v.ownBlock = some g → Lt w.heap.size g := fun g hg => (h.lt g hg).2
set_option maxHeartbeats 400000 in
theorem Reach_no (s : Value) (g : List (List Int)) (x : Int) (w : World) {B : Nat} (hs : RIntss w (Lt B) s g) (h : (mayG g && isNodeB g.length x) = false) :
    Calls Try.prog 14 #[s, .int .i64 x] w fun e w' => e = .returned (.slice none 0 0) ∧ w = w' := by
  have Hd := Lib.hid (Depth_no s g x w hs h)
  clear h hs
  go_enter Try.func14, Try.ntmps14
  go_wp2_with (go_at_call 15; refine Hd.out.mono ?_; rintro e w1 ⟨rfl, rfl⟩)
  go_loop [11, 4] (fun sv ov => sv = .int .i64 0 ∧ ov = .slice none 0 0) (fun _ _ => 0)
  case atStart => exact ⟨rfl, rfl⟩
  case round =>
    obtain ⟨rfl, rfl⟩ := hrel
    go_wp2
    go_ret
    exact ⟨rfl, rfl⟩
set_option maxRecDepth 100000 in
set_option maxHeartbeats 1000000 in
theorem Reach_any (s : Value) (G : Gr) (a : Nat) (w : World) (hs : RNatss w (Lt w.heap.size) s G) (hG : okG G) (ha : a < G.length) (hn : G.length ≤ 1000000) :
    Calls Try.prog 14 #[s, .int .i64 a] w (ReachPost G a w) := by
  have Hd := Lib.hid (Depth_any s G a w hs hG ha hn)
  clear hG hs
  go_enter Try.func14, Try.ntmps14
  go_wp2_with (go_at_call 15; refine Hd.out.mono ?_; rintro e w1 ⟨d, hdep, rfl, hV, hB⟩)
  have Hdep := Lib.hid hdep
  have hdl := hdep.1
  have HV := Lib.hid hV
  have HB := Lib.hid hB
  have hlt := hV.lt
  clear hdep hV hB Hd
  rw [← hdl] at ha hn ⊢
  have Hdl := Lib.hid hdl
  clear hdl
  obtain ⟨D, hD⟩ : ∃ D, D = w.heap.size := ⟨_, rfl⟩
  rw [← hD] at HV HB hlt ⊢
  have HD := Lib.hid hD
  clear hD
  go_loopw [11, 4] (fun sv ov wr => ∃ k : Nat, k ≤ d.length ∧ sv = .int .i64 k ∧ Hid (wr.ownsRow w1.heap.size 3 1 ov (reachTo d k).length ((reachTo d k).map natV)) ∧ Hid (Below w1.heap.size w1 wr)) (fun sv _ _ => d.length - (intOf sv).toNat)
  case atStart => exact ⟨0, Nat.zero_le _, rfl, World.ownsRow_nil _ _ _ _, Below.refl _ _⟩
  case round =>
    obtain ⟨w5, rfl⟩ : ∃ w0 : World, w0 = wr := ⟨_, rfl⟩
    obtain ⟨k, hkle, rfl, Hown, HBw⟩ := hrel
    obtain ⟨Ao, co, rfl⟩ := own_shape Hown.out
    have hle := reachTo_length d k
    by_cases hklt : k < d.length
    · have hck := (HV.out.below HBw.out hlt).int hklt
      have hdk : dd d k = d[k] := by simp [dd, List.getD, hklt]
      have Hsucc := Lib.hid (reachTo_succ d k)
      by_cases h0 : 0 ≤ d[k]
      · rw [hdk, if_pos h0] at Hsucc
        clear hdk
        go_wp2_with (at_builtin; refine wpList_push rfl _ _ _ rfl eInt (v := .slice Ao (reachTo d k).length co) rfl (Hown.out.alloc _) w5.heap.size (natV k) rfl (by simp [go_sem, natV]) rfl (by omega) (by have := HBw.out.size; simp; omega) ?_; intro v7 w7 hown7 hg7 hat7)
        have HB7 := Lib.hid ((HBw.out.alloc HBw.out.size _).grown hg7 (by have := HBw.out.size; simp; omega) (fun b hb => (Hown.out.lt b hb).1))
        have Ho7 := Lib.hid (show w7.ownsRow w1.heap.size 3 1 v7 (reachTo d (k + 1)).length ((reachTo d (k + 1)).map natV) by rw [Hsucc.out]; simpa using hown7)
        clear hg7 hown7 hat7
        go_roundw
        case rel => exact ⟨k + 1, by omega, by go_num, Ho7.out, HB7.out⟩
        case measure => simp [intOf]; omega
      · rw [hdk, if_neg h0, List.append_nil] at Hsucc
        clear hdk
        go_wp2
        go_roundw
        case rel => exact ⟨k + 1, by omega, by go_num, (by rw [Hsucc.out]; exact Hown.out), HBw.out⟩
        case measure => simp [intOf]; omega
    · obtain rfl : k = d.length := by omega
      go_wp2
      go_ret
      refine ⟨d, _, Hdep.out, rfl, nats_of_own Hown.out (own_lt Hown.out), ?_⟩
      rw [← HD.out]
      exact HB.out.trans (HBw.out.mono (by rw [HD.out]; exact HB.out.size))
end Go.Proofs.Ytjmenkjmghmkpaa
