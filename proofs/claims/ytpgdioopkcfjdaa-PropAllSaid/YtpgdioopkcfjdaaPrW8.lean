/- The law's cut and few. -/
import Derived.Test.YtpgdioopkcfjdaaPrW7
import Derived.Deep.RegionLaw
namespace Go.Proofs.Ytpgdioopkcfjdaa
open Go.RowKit

def cut1 (s : Bs) : Bs := s.take 1000
theorem cut1_len (s : Bs) : (cut1 s).length ≤ 1000 := by unfold cut1; simp; omega
theorem lawcutL_any (s : Bs) (w : World) : Calls Try.prog 14 #[sv s] w fun e w' => e = .returned (sv (cut1 s)) ∧ w' = w := by
  refine (lawcut_any (bz s) w).mono ?_
  rintro e w' ⟨rfl, rfl⟩
  refine ⟨?_, rfl⟩
  unfold cutS cut1
  rw [bz_size]
  by_cases h : 1000 < s.length
  · rw [if_pos h, bz_ext]; simp
  · rw [if_neg h, List.take_of_length_le (by omega)]
def fewP (L : PL) : PL := (L.take 60).map fun p => (cut1 p.1, cut1 p.2)
theorem fewP_length (L : PL) : (fewP L).length ≤ 60 := by unfold fewP; simp; omega
theorem fewP_ok (L : PL) : ∀ p ∈ fewP L, p.1.length ≤ 1000 ∧ p.2.length ≤ 1000 := by
  intro p hp
  unfold fewP at hp
  obtain ⟨q, _, rfl⟩ := List.mem_map.1 hp
  exact ⟨cut1_len _, cut1_len _⟩
theorem fewP_succ (L : PL) (k : Nat) (h : k < L.length) (h2 : k < 60) : fewP (L.take (k + 1)) = fewP (L.take k) ++ [(cut1 L[k].1, cut1 L[k].2)] := by
  unfold fewP
  rw [List.take_take, List.take_take, Nat.min_eq_right (by omega), Nat.min_eq_right (by omega), List.take_succ_eq_append_getElem h, List.map_append]
  rfl
theorem fewP_stay (L : PL) (k : Nat) (h2 : 60 ≤ k) : fewP (L.take (k + 1)) = fewP (L.take k) := by
  unfold fewP
  rw [List.take_take, List.take_take, Nat.min_eq_left (by omega), Nat.min_eq_left (by omega)]
theorem two_new1 (w : World) (o : Obj) (a b : Value) (t : TypeId) : ((w.alloc o).alloc (.cells #[a, b] t)).cell? ⟨w.heap.size + 1, 0, none⟩ = some a ∧ ((w.alloc o).alloc (.cells #[a, b] t)).cell? ⟨w.heap.size + 1, 1, none⟩ = some b := by
  have h := two_new (w.alloc o) a b t
  rwa [World.size_alloc] at h
theorem step_pushP {ops : Array Oper} {o : Oper} {w : World} {a : Act} {K : Act → World → Prop} {Q : Exit → Act → World → Prop} {E : Prop} (hgd : o.guard = none) (s x : Operand)
    (ho : o.op = .call { callee := .builtin .append, args := #[s, x], argTypes := #[22, 22] }) {base : Nat}
    {v : Value} {L : PL} (hs : a.eval s = v) (hown : POwn w base v L) (g : Nat) (p : Bs × Bs) (hx : a.eval x = .slice (some ⟨g, 0, none⟩) 1 1)
    (h0 : w.cell? ⟨g, 0, none⟩ = some (sv p.1)) (h1 : w.cell? ⟨g, 1, none⟩ = some (sv p.2)) (hn : L.length < 1000000000000) (hbase : base ≤ w.heap.size)
    (h : ∀ v' w', POwn w' base v' (L ++ [p]) → w.grownBy w' v.ownBlock → (v'.ownBlock = v.ownBlock ∨ v'.ownBlock = some w.heap.size) → K (a.put o.dst v') w') :
    if Region.wanted o (yielded ops a.tmps) = true then Oper.wp Try.prog o a w K Q else E := by
  obtain ⟨i, hi, hz, hsz, hby⟩ := info_parts (show (Try.prog.info? 42).map (fun i => (i.zero, i.size, i.bytes)) = some (some (.agg #[.string ⟨#[]⟩, .string ⟨#[]⟩]), 2, 32) by kernel_rfl)
  refine step_append_lies w hgd s x 22 ho base 42 i _ 2 32 Try.underlying22 hi hz hsz hby (by simp [Value.cells]) (by omega) v L.length (pcellsL L) hs hown ⟨g, 0, none⟩ 1 1 (pcells p) hx rfl ?_ ?_ (by omega) ?_ ?_ hbase _ rfl fun g' cap w' h2 h3 h4 h5 => h _ w' ?_ h3 ?_
  · intro j u hu
    match j with
    | 0 => simp [pcells] at hu; subst hu; exact h0
    | 1 => simp [pcells] at hu; subst hu; exact h1
    | j + 2 => simp [pcells] at hu
  · intro u hu; simp [pcells] at hu; rcases hu with rfl | rfl <;> rfl
  · unfold maxLen; omega
  · omega
  · unfold POwn; rw [pcellsL_snoc]; simpa [pcells] using h2
  · rcases h4 with h | h
    · exact .inl h.symm
    · exact .inr (by rw [h]; rfl)
set_option maxHeartbeats 2000000 in
theorem few_any (s : Value) (L : PL) (w : World) (hs : RProps w (Lt w.heap.size) s L) :
    Calls Try.prog 11 #[s] w fun e w' => ∃ u, e = .returned u ∧ POwn w' w.heap.size u (fewP L) ∧ Below w.heap.size w w' := by
  obtain ⟨A, c, rfl, hm, hat⟩ := hs.open_
  have Hat := Lib.hid hat
  clear hat hs
  obtain ⟨B, hB⟩ : ∃ B, B = w.heap.size := ⟨_, rfl⟩
  have HBe := Lib.hid hB
  rw [← hB] at Hat ⊢
  clear hB
  go_enter Try.func11, Try.ntmps11
  go_wp2
  go_loopw [8, 3] (fun kv lv wr => ∃ k : Nat, k ≤ L.length ∧ kv = .int .i64 k ∧ Hid (POwn wr B lv (fewP (L.take k))) ∧ Hid (Below B w wr)) (fun kv _ _ => L.length - (intOf kv).toNat)
  case atStart => exact ⟨0, Nat.zero_le _, rfl, Lib.hid (POwn.nil _ _), Lib.hid (Below.refl _ _)⟩
  case round =>
    obtain ⟨lv, hlv⟩ : ∃ lv, lv = u3 := ⟨_, rfl⟩
    rw [← hlv] at hrel ⊢
    clear hlv
    obtain ⟨k, hkle, rfl, HR, HB⟩ := hrel
    rcases Nat.lt_or_ge k L.length with hk | hk
    · obtain ⟨b, off, rfl, hb, c0, c1⟩ := prop_cells (Hat.out.agree (VCells.stable _) (ag_of_below HB.out) (fun _ h => h)) hk
      have hsz : B ≤ wr.heap.size := by rw [HBe.out]; exact HB.out.size
      rcases Nat.lt_or_ge k 60 with h6 | h6
      · have Hs6 := Lib.hid (fewP_succ L k hk h6)
        have Hc := Lib.hid (fun s w => lawcutL_any s w)
        have HL := Lib.hid (fewP_length (L.take k))
        go_wp2_with fail
        go_region_law (first
          | (go_simp
             go_at_call 14
             refine (Hc.out _ _).mono ?_
             rintro e w3 ⟨rfl, rfl⟩)
          | (refine step_pushP (by rfl) _ _ (by rfl) (v := lv) (by rfl) ((HR.out.alloc _).alloc _) (wr.heap.size + 1) (cut1 L[k].1, cut1 L[k].2) (by rfl) (two_new1 _ _ _ _ _).1 (two_new1 _ _ _ _ _).2 (by have := HL.out; omega) (by simp; omega) ?_
             intro v1 w5 hown1 hg1 hat1))
        all_goals
          have HO5 := Lib.hid (show POwn w5 B v1 (fewP (L.take (k + 1))) by rw [Hs6.out]; exact hown1)
          have HB5 := Lib.hid (((HB.out.alloc hsz _).alloc (by simp; omega) _).drew.grown hg1 (by simp; omega) (fun i hi => (HR.out.lt i hi).1))
          clear hown1 hg1 hat1
          go_wp2
          go_roundw
          case rel => exact ⟨k + 1, by omega, by go_num, HO5, HB5⟩
          case measure => simp [intOf]; omega
      · have Hs6 := Lib.hid (fewP_stay L k h6)
        go_wp2
        go_roundw
        case rel => exact ⟨k + 1, by omega, by go_num, Lib.hid (by rw [Hs6.out]; exact HR.out.alloc _), Lib.hid (HB.out.alloc hsz _)⟩
        case measure => simp [intOf]; omega
    · obtain rfl : k = L.length := by omega
      go_wp2
      go_ret
      have h := HR.out
      rw [List.take_length] at h
      exact ⟨_, rfl, h, HB.out⟩
end Go.Proofs.Ytpgdioopkcfjdaa
