/- Depth of the document's answer: layer by layer. -/
import Derived.Test.YtjmenkjmghmkpaaGrW5
namespace Go.Proofs.Ytjmenkjmghmkpaa
open Go.RowKit
open G22

def firstD (a k : Nat) : List Int := (List.range k).map fun i => if i = a then 0 else -1
theorem firstD_succ (a k : Nat) : firstD a (k + 1) = firstD a k ++ [if k = a then 0 else -1] := by simp [firstD, List.range_succ]
theorem firstD_length (a k : Nat) : (firstD a k).length = k := by simp [firstD]
theorem firstD_lay {G : Gr} {a : Nat} : Lay G a (firstD a G.length) 0 :=
  lay_start (firstD_length _ _) fun b hb => by simp [dd, List.getD, firstD, hb]
def DepthPost2 (G : Gr) (a : Nat) (w : World) (e : Ending) (w' : World) : Prop :=
  ∃ d v, IsDepth G a d ∧ e = .returned v ∧ RInts w' (New w w') v d ∧ Below w.heap.size w w'
theorem own_int {w : World} {base : Nat} {e : TypeId} {g n c : Nat} {l : List Int} (h : w.ownsRow base e 1 (.slice (some ⟨g, 0, none⟩) n c) n (iVs l)) {i : Nat} (hi : i < l.length) : w.cell? ⟨g, i, none⟩ = some (.int .i64 l[i]) := by
  have := h.cells (g := g) rfl i (.int .i64 l[i]) (by simp [hi])
  rwa [add_none, Nat.zero_add] at this
theorem own_setInt {w : World} {base : Nat} {e : TypeId} {g n c : Nat} {l : List Int} (h : w.ownsRow base e 1 (.slice (some ⟨g, 0, none⟩) n c) n (iVs l)) (i : Nat) (x : Int) : (w.setCell ⟨g, i, none⟩ (.int .i64 x)).ownsRow base e 1 (.slice (some ⟨g, 0, none⟩) n c) n (iVs (l.set i x)) := by
  have := (h.stored (g := g) (cap := c) i (.int .i64 x)).1
  rwa [← List.map_set] at this
set_option maxRecDepth 100000 in
set_option maxHeartbeats 2000000 in
theorem refDepth_any (s : Value) (G : Gr) (a : Nat) (w : World) (hs : RNatss w (Lt w.heap.size) s G) (hG : okG G) (ha : a < G.length) (hn : G.length ≤ 1000000) :
    Calls Try.prog 21 #[s, .int .i64 a] w (DepthPost2 G a w) := by
  have HG := Lib.hid hG
  obtain ⟨A, c, rfl, hm, hat⟩ := hs.open_
  have Hat := Lib.hid hat; clear hat
  clear hs hG
  obtain ⟨D, hD⟩ : ∃ D, D = w.heap.size := ⟨_, rfl⟩
  rw [← hD] at Hat
  have HD := Lib.hid hD
  clear hD
  go_enter Try.func21, Try.ntmps21
  go_wp2
  go_loopw [13, 5] (fun sv ov wr => ∃ k : Nat, k ≤ G.length ∧ sv = .int .i64 k ∧ Hid (wr.ownsRow D 3 1 ov k (iVs (firstD a k))) ∧ Hid (Below D w wr) ∧ D ≤ wr.heap.size) (fun sv _ _ => G.length - (intOf sv).toNat)
  case atStart => exact ⟨0, Nat.zero_le _, rfl, World.ownsRow_nil _ _ _ _, Below.refl _ _, (by rw [HD.out]; exact Nat.le_refl _)⟩
  case round =>
    obtain ⟨w5, rfl⟩ : ∃ w0 : World, w0 = wr := ⟨_, rfl⟩
    obtain ⟨k, hkle, rfl, Hown, HBw, hsz⟩ := hrel
    obtain ⟨Ao, co, rfl⟩ := own_shape Hown.out
    by_cases hklt : k < G.length
    · have Hsucc := Lib.hid (firstD_succ a k)
      by_cases h0 : k = a
      · rw [if_pos h0] at Hsucc
        have hbb : ((k : Int) == (a : Int)) = true := by simp [h0]
        clear h0
        go_wp2_with (at_builtin; refine wpList_push rfl _ _ _ rfl eInt (v := .slice Ao k co) rfl (Hown.out.alloc _) w5.heap.size (.int .i64 0) rfl (by simp [go_sem]) rfl (by omega) (by simp; omega) ?_; intro v7 w7 hown7 hg7 hat7)
        have HB7 := Lib.hid ((HBw.out.alloc hsz _).grown hg7 (by simp; omega) (fun b hb => (Hown.out.lt b hb).1))
        have Ho7 := Lib.hid (show w7.ownsRow D 3 1 v7 (k + 1) (iVs (firstD a (k + 1))) by rw [Hsucc.out]; simpa using hown7)
        have hs7 : D ≤ w7.heap.size := by have := hg7.size; simp at this; omega
        clear hg7 hown7 hat7
        go_roundw
        case rel => exact ⟨k + 1, by omega, by go_num, Ho7.out, HB7.out, hs7⟩
        case measure => simp [intOf]; omega
      · rw [if_neg h0] at Hsucc
        have hbb : ((k : Int) == (a : Int)) = false := by simp; omega
        clear h0
        go_wp2_with (at_builtin; refine wpList_push rfl _ _ _ rfl eInt (v := .slice Ao k co) rfl (Hown.out.alloc _) w5.heap.size (.int .i64 (-1)) rfl (by simp [go_sem]) rfl (by omega) (by simp; omega) ?_; intro v7 w7 hown7 hg7 hat7)
        have HB7 := Lib.hid ((HBw.out.alloc hsz _).grown hg7 (by simp; omega) (fun b hb => (Hown.out.lt b hb).1))
        have Ho7 := Lib.hid (show w7.ownsRow D 3 1 v7 (k + 1) (iVs (firstD a (k + 1))) by rw [Hsucc.out]; simpa using hown7)
        have hs7 : D ≤ w7.heap.size := by have := hg7.size; simp at this; omega
        clear hg7 hown7 hat7
        go_roundw
        case rel => exact ⟨k + 1, by omega, by go_num, Ho7.out, HB7.out, hs7⟩
        case measure => simp [intOf]; omega
    · obtain rfl : k = G.length := by omega
      obtain ⟨g, cz, e, hDg, hgl⟩ := own_block Hown.out (by omega)
      cases e
      clear hklt hkle
      go_wp2
      go_loopw [7] (fun sv wr => ∃ (k : Nat) (d : List Int), k ≤ G.length ∧ sv = .int .i64 k ∧ Hid (Lay G a d k) ∧ Hid (wr.ownsRow D 3 1 (.slice (some ⟨g, 0, none⟩) G.length co) G.length (iVs d)) ∧ Hid (Below D w wr)) (fun sv _ => G.length - (intOf sv).toNat)
      case atStart => exact ⟨0, _, Nat.zero_le _, rfl, firstD_lay, Hown.out, HBw.out⟩
      case round =>
        obtain ⟨w6, rfl⟩ : ∃ w0 : World, w0 = wr := ⟨_, rfl⟩
        obtain ⟨k, d, hkle, rfl, HL, Ho6, HB6⟩ := hrel
        by_cases hklt : k < G.length
        · have HM6 := Lib.hid (HL.out.mid.mono (P' := fun x _ => x < 0) (fun x b _ _ _ _ h => absurd h (Nat.not_lt_zero _)))
          clear Hown HBw HL
          go_wp2
          go_loopw [34] (fun sv wr => ∃ (i : Nat) (d : List Int), i ≤ G.length ∧ sv = .int .i64 i ∧ Hid (Mid G a d k (fun x _ => x < i)) ∧ Hid (wr.ownsRow D 3 1 (.slice (some ⟨g, 0, none⟩) G.length co) G.length (iVs d)) ∧ Hid (Below D w wr)) (fun sv _ => G.length - (intOf sv).toNat)
          case atStart => exact ⟨0, d, Nat.zero_le _, rfl, HM6.out, Ho6.out, HB6.out⟩
          case round =>
            obtain ⟨w7, rfl⟩ : ∃ w0 : World, w0 = wr := ⟨_, rfl⟩
            obtain ⟨i, d7, hile, rfl, HM7, Ho7, HB7⟩ := hrel
            by_cases hilt : i < G.length
            · have hid : i < d7.length := by rw [HM7.out.1]; exact hilt
              have hdi : dd d7 i = d7[i] := by simp [dd, List.getD, hid]
              have hci := own_int Ho7.out hid
              by_cases hdk : d7[i] = (k : Int)
              · have hbb : (d7[i] != (k : Int)) = false := by simp [hdk]
                obtain ⟨br, or, ur, rfl, hbr, hcr0, hur⟩ := Hat.out.lt_ hilt
                have hcr := (HB7.out.cell (p := ⟨br, or + i, none⟩) hbr).trans hcr0
                obtain ⟨Ar, cr, rfl, hmr, hatr⟩ := hur.open_
                have Hatr := Lib.hid hatr
                have Hdi := Lib.hid (hdi.trans hdk)
                have HM8 := Lib.hid (HM7.out.mono (P' := fun x b => x < i ∨ (x = i ∧ b ∈ G[i].take 0)) (fun x b _ _ _ _ h => by rcases h with h | ⟨_, h⟩; exact h; simp at h))
                clear hatr hur hcr0 hdi hdk
                go_wp2
                go_loopw [48] (fun sv wr => ∃ (j : Nat) (d : List Int), j ≤ G[i].length ∧ sv = .int .i64 j ∧ Hid (Mid G a d k (fun x b => x < i ∨ (x = i ∧ b ∈ G[i].take j)) ∧ dd d i = (k : Int)) ∧ Hid (wr.ownsRow D 3 1 (.slice (some ⟨g, 0, none⟩) G.length co) G.length (iVs d)) ∧ Hid (Below D w wr)) (fun sv _ => G[i].length - (intOf sv).toNat)
                case atStart => exact ⟨0, d7, Nat.zero_le _, rfl, ⟨HM8.out, Hdi.out⟩, Ho7.out, HB7.out⟩
                case round =>
                  obtain ⟨w8, rfl⟩ : ∃ w0 : World, w0 = wr := ⟨_, rfl⟩
                  obtain ⟨j, d8, hjle, rfl, HM9, Ho8, HB8⟩ := hrel
                  by_cases hjlt : j < G[i].length
                  · obtain ⟨b6, o6, u6, rfl, hb6, hc6, hu6⟩ := Hatr.out.at_ RNat.stable (ag_of_below HB8.out) hjlt
                    obtain rfl := hu6
                    unfold natV at hc6
                    have hed : G22.Edge G i G[i][j] := by unfold G22.Edge; rw [row_at hilt]; exact List.getElem_mem hjlt
                    have hk : G[i][j] < G.length := HG.out i _ hed
                    have hkd : G[i][j] < d8.length := by rw [HM9.out.1.1]; exact hk
                    have hck := own_int Ho8.out hkd
                    have hdk : dd d8 G[i][j] = d8[G[i][j]] := by simp [dd, List.getD, hkd]
                    have htk : ∀ x b, dd d8 b = -1 → d8[G[i][j]] ≥ 0 → (x < i ∨ (x = i ∧ b ∈ G[i].take (j + 1))) → (x < i ∨ (x = i ∧ b ∈ G[i].take j)) := by
                      intro x b hb hge h
                      rcases h with h | ⟨h1, h2⟩
                      · exact .inl h
                      · rw [List.take_succ_eq_append_getElem hjlt] at h2
                        rcases List.mem_append.1 h2 with h2 | h2
                        · exact .inr ⟨h1, h2⟩
                        · simp at h2; subst h2; omega
                    have Htk := Lib.hid htk
                    clear htk hb6 hbr
                    by_cases hneg : d8[G[i][j]] < 0
                    · have hv := HM9.out.1.visit hk hed HM9.out.2 (by rw [hdk]; exact hneg)
                      have hdi8 : dd (d8.set G[i][j] ((k : Int) + 1)) i = (k : Int) := by
                        rw [dd_set hkd, if_neg (fun e => by have := HM9.out.2; rw [e, hdk] at this; omega)]
                        exact HM9.out.2
                      have hnew : dd (d8.set G[i][j] ((k : Int) + 1)) G[i][j] = (k : Int) + 1 := by rw [dd_set hkd, if_pos rfl]
                      have HMv := Lib.hid (show Mid G a (d8.set G[i][j] ((k : Int) + 1)) k (fun x b => x < i ∨ (x = i ∧ b ∈ G[i].take (j + 1))) ∧ dd (d8.set G[i][j] ((k : Int) + 1)) i = (k : Int) from ⟨hv.mono (fun x b _ _ _ hb h => by
                        rcases h with h | ⟨h1, h2⟩
                        · exact .inl h
                        · rw [List.take_succ_eq_append_getElem hjlt] at h2
                          rcases List.mem_append.1 h2 with h2 | h2
                          · exact .inr ⟨h1, h2⟩
                          · simp at h2; subst h2; omega), hdi8⟩)
                      have Hov := Lib.hid (own_setInt Ho8.out G[i][j] ((k : Int) + 1))
                      have HBv := Lib.hid (HB8.out.setCell (p := ⟨g, G[i][j], none⟩) hDg (.int .i64 ((k : Int) + 1)))
                      have hfr := Ho8.out.frozenAt (g := g) (cap := co) G[i][j]
                      clear hv hdi8 hnew hdk Htk
                      go_wp2
                      go_roundw
                      case rel => exact ⟨j + 1, _, by omega, by go_num, HMv.out, Hov.out, HBv.out⟩
                      case measure => simp [intOf]; omega
                    · have HMv := Lib.hid (show Mid G a d8 k (fun x b => x < i ∨ (x = i ∧ b ∈ G[i].take (j + 1))) ∧ dd d8 i = (k : Int) from ⟨HM9.out.1.mono (fun x b _ _ _ hb h => Htk.out x b hb (by omega) h), HM9.out.2⟩)
                      clear hdk Htk
                      go_wp2
                      go_roundw
                      case rel => exact ⟨j + 1, d8, by omega, by go_num, HMv.out, Ho8.out, HB8.out⟩
                      case measure => simp [intOf]; omega
                  · obtain rfl : j = G[i].length := by omega
                    have HMv := Lib.hid (HM9.out.1.mono (P' := fun x _ => x < i + 1) (fun x b _ _ he _ h => by
                      rcases Nat.lt_or_ge x i with h1 | h1
                      · exact .inl h1
                      · obtain rfl : x = i := by omega
                        exact .inr ⟨rfl, by unfold G22.Edge at he; rw [row_at hilt] at he; rw [List.take_length]; exact he⟩))
                    clear HM9
                    go_wp2
                    go_roundw
                    case rel => exact ⟨i + 1, d8, by omega, by go_num, HMv.out, Ho8.out, HB8.out⟩
                    case measure => simp [intOf]; omega
              · have hbb : (d7[i] != (k : Int)) = true := by simp [hdk]
                have HMv := Lib.hid (HM7.out.mono (P' := fun x _ => x < i + 1) (fun x b _ hx _ _ h => by
                  rcases Nat.lt_or_ge x i with h1 | h1
                  · exact h1
                  · obtain rfl : x = i := by omega
                    exact absurd (hdi.symm.trans hx) hdk))
                clear hdi hdk HM7
                go_wp2
                go_roundw
                case rel => exact ⟨i + 1, d7, by omega, by go_num, HMv.out, Ho7.out, HB7.out⟩
                case measure => simp [intOf]; omega
            · obtain rfl : i = G.length := by omega
              have HL8 := Lib.hid (HM7.out.lay fun x b he _ => he.lt)
              clear HM7
              go_wp2
              go_roundw
              case rel => exact ⟨k + 1, d7, by omega, by go_num, HL8.out, Ho7.out, HB7.out⟩
              case measure => simp [intOf]; omega
        · obtain rfl : k = G.length := by omega
          have HF := Lib.hid (HL.out.final HG.out ha)
          have hdl := HL.out.1
          have Hdl := Lib.hid hdl
          clear HL hdl
          go_wp2
          go_ret
          refine ⟨d, _, HF.out, rfl, ?_, by rw [← HD.out]; exact HB6.out⟩
          have ho := Ho6.out
          rw [← Hdl.out] at ho ⊢
          exact ints_of_own ho (fun g hg => ⟨by rw [← HD.out]; exact (ho.lt g hg).1, (ho.lt g hg).2⟩)
end Go.Proofs.Ytjmenkjmghmkpaa
