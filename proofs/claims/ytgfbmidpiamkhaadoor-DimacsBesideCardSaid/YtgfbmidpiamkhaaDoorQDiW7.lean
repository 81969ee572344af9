/- dimacs.ParseProof's closure: the clauses of all lines. -/
import Derived.Test.YtgfbmidpiamkhaaDoorQDiG
import Derived.Test.YtgfbmidpiamkhaaDoorQDiRg2
import Derived.Test.YtgfbmidpiamkhaaDoorQDiW6
import Derived.Test.YtgfbmidpiamkhaaDoorZd
namespace Go.Proofs.YtgfbmidpiamkhaaDoor
open Go.RowKit
open C01 D28

theorem lines_any (a : Bs) (w : World) : Calls Tryd.prog 27 #[sv a] w fun e w' => e = .returned (.func (.func 46) #[] #[.pointer (some ⟨w.heap.size, 0, none⟩)]) ∧ w' = w.alloc (.cells #[sv a] 9) := by
  have hmf : ∀ (fn : Fn) (first cap : Array Value) (w : World), (Instr.makeFunc fn first cap).run Tryd.prog w = .ok (.func fn first cap) w := fun _ _ _ _ => rfl
  go_enter Tryd.func27, Tryd.ntmps27
  go_wp2
  go_ret
  exact ⟨rfl, rfl⟩
def PP1Post (B G : Nat) (most full vars : Int) (a : Bs) (w : World) (e : Ending) (w' : World) : Prop :=
  Kp (keepG G B) w w' ∧ match linesG most vars ([], false) (linesOf a) with
  | (g, 0, _) => if g.2 = true then e = .panicked (flt 1 (endOf a)) else e = .returned (.tuple #[]) ∧ GAt w' B G g.1 false most full vars
  | (_, 1, n) => e = .panicked (flt 1 n)
  | (_, _, n) => e = .panicked (flt full n)
/-- between two rounds -/
def PI (B G gb : Nat) (most full vars : Int) (a : Bs) (w0 : World) (k : Nat) (w : World) : Prop :=
  Kp (keepG G B) w0 w ∧ w.cell? ⟨gb, 0, none⟩ = some (.pointer (some ⟨G, 0, none⟩)) ∧ ∃ g, linesG most vars ([], false) ((linesOf a).take k) = (g, 0, 0) ∧ GOk g (k * (a.length + 1)) ∧ GAt w B G g.1 g.2 most full vars
theorem arr2 {α : Type} {a : Array α} (h : a.size = 2) : ∃ x y, a = #[x, y] := by
  rcases a with ⟨_ | ⟨x, _ | ⟨y, _ | ⟨z, r⟩⟩⟩⟩
  · simp at h
  · simp at h
  · exact ⟨x, y, rfl⟩
  · simp at h
theorem cell_kp {p : Nat → Obj → Prop} {w w' : World} {b j : Nat} {v : Value} (h : w.cell? ⟨b, j, none⟩ = some v) (hk : Kp p w w') (hp : ∀ c t f, w.heap[b]? = some (.cells c t f) → p b (.cells c t f)) : w'.cell? ⟨b, j, none⟩ = some v := by
  unfold World.cell? at h
  cases ho : w.heap[b]? with
  | none => simp [ho] at h
  | some o =>
    cases o with
    | cells c t f =>
      refine (World.cell?_of_block (a := ⟨b, j, none⟩) ((hk.same b _ ho (hp c t f ho)).trans ho.symm)).trans ?_
      unfold World.cell?; exact h
    | _ => simp [ho] at h
theorem GAt.kp {p : Nat → Obj → Prop} {w w' : World} {B G : Nat} {out : List (List Int)} {opn : Bool} {most full vars : Int} (h : GAt w B G out opn most full vars) (hk : Kp p w w') (hp : ∀ b c t f, p b (.cells c t f)) : GAt w' B G out opn most full vars := by
  obtain ⟨v, vs, h1, h2⟩ := h
  exact ⟨v, vs, hk.same _ _ h1 (hp _ _ _ _), h2.kp hk fun g c t f _ _ => hp g c t f⟩
theorem Kp.step {p : Nat → Obj → Prop} {n : Nat} {w A A' : World} (h : Kp p w A) (hk : Kp (cellsOr n) A A') (hn : w.heap.size ≤ n) : Kp p w A' :=
  ⟨hk.os.trans h.os, hk.tape.trans h.tape, hk.output.trans h.output, Nat.le_trans h.size hk.size, fun b o hb hp => hk.same b o (h.same b o hb hp) (by
    have := (Array.getElem?_eq_some_iff.1 hb).1
    cases o <;> first | trivial | exact Nat.lt_of_lt_of_le this hn)⟩
theorem PI.kp {B G gb n : Nat} {most full vars : Int} {a : Bs} {w0 A A' : World} {k : Nat} (h : PI B G gb most full vars a w0 k A) (hk : Kp (cellsOr n) A A') (hn : w0.heap.size ≤ n) : PI B G gb most full vars a w0 k A' := by
  obtain ⟨h1, h2, g, h3, h4, h5⟩ := h
  exact ⟨h1.step hk hn, cell_kp h2 hk fun _ _ _ _ => trivial, g, h3, h4, h5.kp hk fun _ _ _ _ => trivial⟩
theorem OkL.size {a : Bs} {k : Nat} {w : World} {args : Array Value} (h : OkL a k w args) : args.size = 2 := by obtain ⟨_, v, rfl, _⟩ := h; rfl
theorem OkL.kp {a : Bs} {k n : Nat} {w w' : World} {args : Array Value} (h : OkL a k w args) (hk : Kp (cellsOr n) w w') : OkL a k w' args := by
  obtain ⟨h1, v, h2, h3⟩ := h
  exact ⟨h1, v, h2, h3.kp hk fun _ _ _ => trivial⟩
/-- the panic of what is wrong -/
def PIp (B G : Nat) (full most vars : Int) (a : Bs) (w0 : World) (c : List PanicEntry) (w : World) : Prop :=
  Kp (keepG G B) w0 w ∧ match linesG most vars ([], false) (linesOf a) with
  | (_, 0, _) => False
  | (_, 1, n) => c = flt 1 n
  | (_, _, n) => c = flt full n
/-- within a round -/
def WI (B G gb : Nat) (most full vars : Int) (w0 : World) (M : Nat) (g : GS) (ws : List Bs) (j : Nat) (w : World) : Prop :=
  Kp (keepG G B) w0 w ∧ w.cell? ⟨gb, 0, none⟩ = some (.pointer (some ⟨G, 0, none⟩)) ∧ ∃ g', wordsG most vars g (ws.take j) = (g', 0) ∧ GOk g' (M + j) ∧ GAt w B G g'.1 g'.2 most full vars
theorem keepG_noneOr {w w' : World} {B G : Nat} {c : Array Value} {f : Nat × Nat} (hG : w.heap[G]? = some (.cells c 68 f)) (h : Kp (keepG G B) w w') : Kp (noneOr 9) w w' :=
  ⟨h.os, h.tape, h.output, h.size, fun b o hb hp => h.same b o hb ⟨fun e => by
    subst e; rw [hG] at hb; cases hb; exact absurd (show 68 = 9 from hp) (by decide), by
    cases o <;> first | trivial | exact .inl (by unfold rowT; have e : _ = _ := hp; rw [e]; decide)⟩⟩
theorem Kp.putHi {p : Nat → Obj → Prop} {w W : World} {D : Nat} {o : Obj} (h : Kp p w W) (hD : w.heap.size ≤ D) : Kp p w (W.putObj D o) :=
  ⟨h.os, h.tape, h.output, by rw [World.putObj_size]; exact h.size, fun b x hb hx => (World.putObj_heap_other fun e => by have := (Array.getElem?_eq_some_iff.1 hb).1; omega).trans (h.same b x hb hx)⟩
def PPm (B G : Nat) (most full vars : Int) (g : GS) (w w' : World) : Prop := Kp (keepG G B) w w' ∧ GAt w' B G g.1 g.2 most full vars
attribute [local go_sem] Oper.semAt_some
set_option maxRecDepth 100000 in
set_option maxHeartbeats 4000000 in
theorem PP1_any (a : Bs) (m most full vars : Int) (sb gb G : Nat) (w : World) (hm : w.cell? ⟨0, 0, none⟩ = some (.int .i64 m)) (hs : w.cell? ⟨sb, 0, none⟩ = some (sv a)) (hg : w.cell? ⟨gb, 0, none⟩ = some (.pointer (some ⟨G, 0, none⟩)))
    (hgb : gb ≠ G) (hG : w.heap[G]? = some (.cells #[.slice none 0 0, .bool false, .int .i64 most, .int .i64 full, .int .i64 vars] 68 (0, 0))) (ha : a.length ≤ 900000) :
    Calls Tryd.prog 34 #[.pointer (some ⟨sb, 0, none⟩), .pointer (some ⟨gb, 0, none⟩)] w (PP1Post w.heap.size G most full vars a w) := by
  refine calls_of_wpB Tryd.func34 rfl ?_
  simp only [Tryd.ntmps34, List.size_toArray, List.length_cons, List.length_nil, Nat.reduceAdd, Nat.reduceSub, Array.replicate_succ, Array.replicate_zero, List.push_toArray, List.append_toArray, List.nil_append, List.cons_append]
  refine wpB_seq (wpB_seq (wpB_of_wp ?_))
  have HL := Lib.hid (fun w => lines_any a w)
  go_wp2_with (go_at_call 27; refine (HL.out _).mono ?_; rintro e w1 ⟨rfl, rfl⟩)
  obtain ⟨w1, hw1⟩ : ∃ w1, w1 = w.alloc (.cells #[sv a] 9) := ⟨_, rfl⟩
  have hb1 : Below w.heap.size w w1 := by rw [hw1]; exact below_alloc _ _
  have hz1 : w1.heap.size = w.heap.size + 1 := by rw [hw1]; simp
  have hcb : w1.cell? ⟨w.heap.size, 0, none⟩ = some (sv a) := by rw [hw1]; exact box_cell (Below.refl _ _) 0
  have hm1 : w1.cell? ⟨0, 0, none⟩ = some (.int .i64 m) := (hb1.cell (p := ⟨_, _, _⟩) (World.block_lt_of_cell? w _ hm)).trans hm
  have hGlt := (Array.getElem?_eq_some_iff.1 hG).1
  have hG1 : w1.heap[G]? = _ := (hb1.block G hGlt).trans hG
  have hg1 := (hb1.cell (p := ⟨gb, 0, none⟩) (World.block_lt_of_cell? w _ hg)).trans hg
  rw [← hw1]
  clear hw1
  refine wpB_block (wpB_range (t := 9) (n := 9) Tryd.func34 rfl (enters_of Tryd.func46 (by kernel_rfl) rfl) (lines1_gives a m w.heap.size w1 hm1 hcb (by omega)) (fun k W args h => OkL.size h) (fun k A A' args h hk => OkL.kp h hk)
    (PI w.heap.size G gb most full vars a w) (PIp w.heap.size G full most vars a w) (fun k A A' h hk => PI.kp h hk (by omega)) ?start (fun args => { tmps := #[.pointer (some ⟨sb, 0, none⟩), .pointer (some ⟨gb, 0, none⟩), args.getD 0 undef, args.getD 1 undef, undef, undef, sv a, .func (.func 46) #[] #[.pointer (some ⟨w.heap.size, 0, none⟩)], args.getD 0 undef, args.getD 1 undef, undef, undef, undef, undef, undef, undef, undef, undef, undef, undef, undef, undef, undef, undef, undef, undef, undef, undef, undef, undef], defers := [] }) ?assign ?body ?done ?panic)
  case start =>
    exact ⟨Kp.of_below hb1, hg1, ([], false), by simp [linesG], GOk.start.more (Nat.zero_le _), _, [], hG1, RR.nil_ _ _⟩
  case assign =>
    intro l args W K hsz hK
    obtain ⟨x, y, rfl⟩ := arr2 hsz
    gi_wp2
    exact hK
  case body =>
    rintro l k W args hk hPI ⟨hk', v, rfl, hv⟩
    obtain ⟨hK0, hg2, g, hgl, hgk, hga⟩ := hPI
    have Hsucc := Lib.hid (linesG_succ hk hgl)
    have hmem := lines_words (List.getElem_mem hk)
    have HpreL := Lib.hid (fun c n g' => linesG_bad (most := most) (vars := vars) (L := linesOf a) (g := ([], false)) (g' := g') (k := k + 1) (c := c) (n := n))
    obtain ⟨n, hn⟩ : ∃ n, n = (linesOf a)[k].1 := ⟨_, rfl⟩
    obtain ⟨ws, hws⟩ : ∃ ws, ws = (linesOf a)[k].2 := ⟨_, rfl⟩
    rw [← hws] at Hsucc hmem hv
    rw [← hn] at Hsucc ⊢
    clear hws hn hk'
    obtain ⟨gr, cap, cur, rfl, hgr, hcs⟩ := hv
    have Hcs := Lib.hid hcs
    have Hgr := Lib.hid hgr
    have HK0 := Lib.hid hK0
    have hwl : ws.length ≤ 900001 := by omega
    have hkl : k ≤ 900001 := by have := lines_count a; omega
    have hmul : k * (a.length + 1) ≤ 900001 * 900001 - 900001 := by
      have h1 := Nat.mul_le_mul (show k ≤ 900000 by have := lines_count a; omega) (show a.length + 1 ≤ 900001 by omega)
      omega
    obtain ⟨M, hM⟩ : ∃ M, M = k * (a.length + 1) := ⟨_, rfl⟩
    have HMw := Lib.hid (show M + ws.length ≤ (k + 1) * (a.length + 1) by rw [hM, Nat.succ_mul]; omega)
    rw [← hM] at hgk hmul
    have Hgk := Lib.hid hgk
    have Hga := Lib.hid hga
    have Hg2 := Lib.hid hg2
    have Hg0 := Lib.hid hg
    have hmix : Tryd.prog.follows .mixedOrders = true := by kernel_rfl
    clear hcs hgr hK0 hg2 hgk hga hgl hM hm hs hg hG hm1 hG1 hg1 hcb
    simp only [Array.getD_eq_getD_getElem?, List.getElem?_toArray, List.getElem?_cons_zero, List.getElem?_cons_succ, Option.getD_some]
    gi_wp2
    gi_loopw [12] (fun iv wr => ∃ j : Nat, j ≤ ws.length ∧ iv = .int .i64 j ∧ Hid (Kp (noneOr 9) W wr) ∧ Hid (WI w.heap.size G gb most full vars w M g ws j wr)) (fun iv _ => ws.length - (intOf iv).toNat)
    case atStart => exact ⟨0, Nat.zero_le _, rfl, Lib.hid (Kp.refl _ _), Lib.hid ⟨HK0.out, Hg2.out, g, rfl, Hgk.out, Hga.out⟩⟩
    case round =>
      obtain ⟨j, hj, rfl, HN, HI⟩ := hrel
      by_cases hlt : j < ws.length
      · have hc : wr.cell? ⟨gr, j, none⟩ = some (sv ws[j]) := by rw [cell_of_row _ _ j _ _ _ (HN.out.same _ _ Hgr.out rfl)]; exact Hcs.out j hlt
        obtain ⟨hKw, hgw, g1, hw1, hok, hga⟩ := HI.out
        cases hp : parseL ws[j] with
        | none =>
          have HP := Lib.hid (fun w => (parse_any ws[j] n w).mono (R' := fun e w' => e = .panicked (flt 1 n) ∧ Below w.heap.size w w') (fun e w' h => by unfold ParsePost at h; rw [hp] at h; exact h))
          have HBad := Lib.hid (show ∀ wx, Below wr.heap.size wr wx → Kp (noneOr 9) W wx ∧ PIp w.heap.size G full most vars a w (flt 1 n) wx from fun wx hbx => by
            have h1 := wordsG_succ hlt hw1
            rw [hp] at h1
            have h2 := wordsG_bad (j := j + 1) (k := 0) h1
            have h3 := Hsucc.out
            rw [h2] at h3
            have h4 := HpreL.out 0 n _ h3
            refine ⟨HN.out.trans (Kp.of_below hbx), hKw.trans (Kp.of_below hbx), ?_⟩
            rw [h4]
            rfl)
          clear hp hga hok hw1 hKw
          gi_wp2
          refine wpIn_region_held (S := (fun w' => w'.cell? ⟨gb, 0, none⟩ = some (.pointer (some ⟨G, 0, none⟩)))) hmix (by kernel_rfl) (by rintro ⟨a, w, h⟩; exact h) hgw (fun hHeld => ?_)
          refine wpAnyH_take (i := 0) (v := ?_) rfl (by kernel_rfl) (by kernel_rfl) (by kernel_rfl) (fun _ _ _ h => h) (Or.inl ⟨by rfl, ?_⟩) (by assumption) ?_
          rotate_left
          · intro w1 hSw
            (try dsimp only at hSw)
            go_simp
            (try with_reducible rfl)
          (try dsimp only [Act.put, List.setIfInBounds_toArray, List.set_cons_zero, List.set_cons_succ])
          refine wpAnyH_take (i := 1) (v := ?_) rfl (by kernel_rfl) (by kernel_rfl) (by kernel_rfl) (fun _ _ _ h => h) (Or.inl ⟨by rfl, ?_⟩) (by assumption) ?_
          rotate_left
          · intro w1 hSw
            (try dsimp only at hSw)
            go_simp
            (try with_reducible rfl)
          (try dsimp only [Act.put, List.setIfInBounds_toArray, List.set_cons_zero, List.set_cons_succ])
          refine wpAnyH_take (i := 2) (v := ?_) rfl (by kernel_rfl) (by kernel_rfl) (by kernel_rfl) (fun _ _ _ h => h) (Or.inl ⟨by rfl, ?_⟩) (by assumption) ?_
          rotate_left
          · intro w1 hSw
            (try dsimp only at hSw)
            go_simp
            (try with_reducible rfl)
          (try dsimp only [Act.put, List.setIfInBounds_toArray, List.set_cons_zero, List.set_cons_succ])
          refine wpAnyH_take (i := 4) (v := ?_) rfl (by kernel_rfl) (by kernel_rfl) (by kernel_rfl) (fun _ _ _ h => h) (Or.inl ⟨by rfl, ?_⟩) (by assumption) ?_
          rotate_left
          · intro w1 hSw
            (try dsimp only at hSw)
            go_simp
            (try with_reducible rfl)
          (try dsimp only [Act.put, List.setIfInBounds_toArray, List.set_cons_zero, List.set_cons_succ])
          refine wpAnyH_ready (rs := [3]) (by kernel_rfl) (by simp) ?_
          refine AllReadyH.cons rfl (fun K hK => ?_) AllReadyH.nil
          go_simp
          refine (HP.out _).mono ?_
          rintro e w2 ⟨rfl, hb2⟩
          exact ⟨rfl, HBad.out _ (Below.trans (Below.drew (Below.refl _ _)) hb2)⟩
        | some x =>
          have hxr := parseL_range hp
          have HP := Lib.hid (fun w => (parse_any ws[j] n w).mono (R' := fun e w' => e = .returned (.int .i64 x) ∧ Below w.heap.size w w') (fun e w' h => by unfold ParsePost at h; rw [hp] at h; exact h))
          have hT0 := wordsG_succ hlt hw1
          rw [hp] at hT0
          have HT0 := Lib.hid hT0
          have hl1 : g1.1.length ≤ 900000000000 := by have := hok.len; omega
          have hr1 : ∀ c ∈ g1.1, c.length ≤ 900000000000 := fun c hc => by have := hok.row c hc; omega
          have HTk := Lib.hid (fun w2 (hb2 : Below wr.heap.size wr w2) => take_any w.heap.size G most full vars g1.1 g1.2 x n w2 (hga.up hb2) (Nat.le_trans hKw.size hb2.size) hxr hl1 hr1 hok.ne)
          have HGo := Lib.hid (show ∃ c f, wr.heap[G]? = some (.cells c 68 f) from by obtain ⟨v, vs, h, _⟩ := hga; exact ⟨_, _, h⟩)
          have HgW := Lib.hid (fun w2 (hb2 : Below wr.heap.size wr w2) => show w2.cell? ⟨gb, 0, none⟩ = some (.pointer (some ⟨G, 0, none⟩)) from (hb2.cell (p := ⟨gb, 0, none⟩) (World.block_lt_of_cell? wr _ hgw)).trans hgw)
          have Hok := Lib.hid hok
          have HKw := Lib.hid hKw
          clear hp hT0 hok hga hl1 hr1 hw1 hKw
          rcases htk : takeG most vars g1 x with ⟨g2, _ | _ | c⟩
          · have HNx := Lib.hid (show ∀ w2 w3, Below wr.heap.size wr w2 → Kp (keepG G w.heap.size) w2 w3 → GAt w3 w.heap.size G g2.1 g2.2 most full vars → w3.cell? ⟨gb, 0, none⟩ = some (.pointer (some ⟨G, 0, none⟩)) ∧ Hid (Kp (noneOr 9) W w3) ∧ Hid (WI w.heap.size G gb most full vars w M g ws (j + 1) w3) from fun w2 w3 hb2 hk3 hg3 => by
              obtain ⟨c, f, hGo⟩ := HGo.out
              have hG2 := (hb2.block G (Array.getElem?_eq_some_iff.1 hGo).1).trans hGo
              have hcell := cell_kp (HgW.out w2 hb2) hk3 fun c t f hcf => ⟨hgb, .inr (by
                have := World.block_lt_of_cell? w _ Hg0.out; exact this)⟩
              refine ⟨hcell, (HN.out.trans (Kp.of_below hb2)).trans (keepG_noneOr hG2 hk3), (HKw.out.trans (Kp.of_below hb2)).trans hk3, hcell, g2, ?_, ?_, hg3⟩
              · rw [HT0.out]; exact htk
              · have := Hok.out.take (most := most) (vars := vars) x
                rw [htk] at this
                exact this)
            have HTc := Lib.hid (show ∀ w2, Below wr.heap.size wr w2 → Calls Tryd.prog 29 #[.pointer (some ⟨G, 0, none⟩), .int .i64 x, .int .i64 n] w2 fun e w3 => e = .returned (.tuple #[]) ∧ Kp (keepG G w.heap.size) w2 w3 ∧ GAt w3 w.heap.size G g2.1 g2.2 most full vars from fun w2 hb2 => (HTk.out w2 hb2).mono fun e w3 h => by
              obtain ⟨h1, h2⟩ := h
              rw [show (g1.1, g1.2) = g1 from rfl, htk] at h2
              exact ⟨h2.1, h1, h2.2⟩)
            clear htk
            gi_wp2
            refine wpIn_region_held (S := (fun w' => w'.cell? ⟨gb, 0, none⟩ = some (.pointer (some ⟨G, 0, none⟩)))) hmix (by kernel_rfl) (by rintro ⟨a, w, h⟩; exact h) hgw (fun hHeld => ?_)
            refine wpAnyH_take (i := 0) (v := ?_) rfl (by kernel_rfl) (by kernel_rfl) (by kernel_rfl) (fun _ _ _ h => h) (Or.inl ⟨by rfl, ?_⟩) (by assumption) ?_
            rotate_left
            · intro w1 hSw
              (try dsimp only at hSw)
              go_simp
              (try with_reducible rfl)
            (try dsimp only [Act.put, List.setIfInBounds_toArray, List.set_cons_zero, List.set_cons_succ])
            refine wpAnyH_take (i := 1) (v := ?_) rfl (by kernel_rfl) (by kernel_rfl) (by kernel_rfl) (fun _ _ _ h => h) (Or.inl ⟨by rfl, ?_⟩) (by assumption) ?_
            rotate_left
            · intro w1 hSw
              (try dsimp only at hSw)
              go_simp
              (try with_reducible rfl)
            (try dsimp only [Act.put, List.setIfInBounds_toArray, List.set_cons_zero, List.set_cons_succ])
            refine wpAnyH_take (i := 2) (v := ?_) rfl (by kernel_rfl) (by kernel_rfl) (by kernel_rfl) (fun _ _ _ h => h) (Or.inl ⟨by rfl, ?_⟩) (by assumption) ?_
            rotate_left
            · intro w1 hSw
              (try dsimp only at hSw)
              go_simp
              (try with_reducible rfl)
            (try dsimp only [Act.put, List.setIfInBounds_toArray, List.set_cons_zero, List.set_cons_succ])
            refine wpAnyH_take (i := 4) (v := ?_) rfl (by kernel_rfl) (by kernel_rfl) (by kernel_rfl) (fun _ _ _ h => h) (Or.inl ⟨by rfl, ?_⟩) (by assumption) ?_
            rotate_left
            · intro w1 hSw
              (try dsimp only at hSw)
              go_simp
              (try with_reducible rfl)
            (try dsimp only [Act.put, List.setIfInBounds_toArray, List.set_cons_zero, List.set_cons_succ])
            refine wpAnyH_ready (rs := [3]) (by kernel_rfl) (by simp) ?_
            refine AllReadyH.cons rfl (fun K hK => ?_) AllReadyH.nil
            go_simp
            refine (HP.out _).mono ?_
            rintro e w2 ⟨rfl, hb2⟩
            have HB2 := Lib.hid (Below.trans (Below.drew (Below.refl _ _)) hb2)
            refine hK.out _ _ (HgW.out _ HB2.out) (fun hHeld => ?_)
            clear hK K
            (try dsimp only [Act.put, List.setIfInBounds_toArray, List.set_cons_zero, List.set_cons_succ])
            refine wpAnyH_ready (rs := [5]) (by kernel_rfl) (by simp) ?_
            refine AllReadyH.cons rfl (fun K hK => ?_) AllReadyH.nil
            go_simp
            refine (HTc.out _ HB2.out).mono ?_
            rintro e w3 ⟨rfl, hk3, hg3⟩
            obtain ⟨q1, q2, q3⟩ := HNx.out _ _ HB2.out hk3 hg3
            refine hK.out _ _ q1 (fun hHeld => ?_)
            clear hK K
            (try dsimp only [Act.put, List.setIfInBounds_toArray, List.set_cons_zero, List.set_cons_succ])
            refine wpAnyH_done (by kernel_rfl) ?_ _
            gi_wp2
            go_roundw
            case rel => exact ⟨j + 1, by omega, by go_num, q2, q3⟩
            case measure => simp [intOf]; omega
          · skip
            have HBad := Lib.hid (show ∀ w2 w3, Below wr.heap.size wr w2 → Kp (keepG G w.heap.size) w2 w3 → Kp (noneOr 9) W w3 ∧ PIp w.heap.size G full most vars a w (flt 1 n) w3 from fun w2 w3 hb2 hk3 => by
              obtain ⟨c', f, hGo⟩ := HGo.out
              have hG2 := (hb2.block G (Array.getElem?_eq_some_iff.1 hGo).1).trans hGo
              have h2 := wordsG_bad (j := j + 1) (HT0.out.trans htk)
              have h3 := Hsucc.out
              rw [h2] at h3
              have h4 := HpreL.out _ n _ h3
              refine ⟨(HN.out.trans (Kp.of_below hb2)).trans (keepG_noneOr hG2 hk3), (HKw.out.trans (Kp.of_below hb2)).trans hk3, ?_⟩
              rw [h4]
              rfl)
            have HTc := Lib.hid (show ∀ w2, Below wr.heap.size wr w2 → Calls Tryd.prog 29 #[.pointer (some ⟨G, 0, none⟩), .int .i64 x, .int .i64 n] w2 fun e w3 => e = .panicked (flt 1 n) ∧ Kp (keepG G w.heap.size) w2 w3 from fun w2 hb2 => (HTk.out w2 hb2).mono fun e w3 h => by
              obtain ⟨h1, h2⟩ := h
              rw [show (g1.1, g1.2) = g1 from rfl, htk] at h2
              exact ⟨h2, h1⟩)
            clear htk
            gi_wp2
            refine wpIn_region_held (S := (fun w' => w'.cell? ⟨gb, 0, none⟩ = some (.pointer (some ⟨G, 0, none⟩)))) hmix (by kernel_rfl) (by rintro ⟨a, w, h⟩; exact h) hgw (fun hHeld => ?_)
            refine wpAnyH_take (i := 0) (v := ?_) rfl (by kernel_rfl) (by kernel_rfl) (by kernel_rfl) (fun _ _ _ h => h) (Or.inl ⟨by rfl, ?_⟩) (by assumption) ?_
            rotate_left
            · intro w1 hSw
              (try dsimp only at hSw)
              go_simp
              (try with_reducible rfl)
            (try dsimp only [Act.put, List.setIfInBounds_toArray, List.set_cons_zero, List.set_cons_succ])
            refine wpAnyH_take (i := 1) (v := ?_) rfl (by kernel_rfl) (by kernel_rfl) (by kernel_rfl) (fun _ _ _ h => h) (Or.inl ⟨by rfl, ?_⟩) (by assumption) ?_
            rotate_left
            · intro w1 hSw
              (try dsimp only at hSw)
              go_simp
              (try with_reducible rfl)
            (try dsimp only [Act.put, List.setIfInBounds_toArray, List.set_cons_zero, List.set_cons_succ])
            refine wpAnyH_take (i := 2) (v := ?_) rfl (by kernel_rfl) (by kernel_rfl) (by kernel_rfl) (fun _ _ _ h => h) (Or.inl ⟨by rfl, ?_⟩) (by assumption) ?_
            rotate_left
            · intro w1 hSw
              (try dsimp only at hSw)
              go_simp
              (try with_reducible rfl)
            (try dsimp only [Act.put, List.setIfInBounds_toArray, List.set_cons_zero, List.set_cons_succ])
            refine wpAnyH_take (i := 4) (v := ?_) rfl (by kernel_rfl) (by kernel_rfl) (by kernel_rfl) (fun _ _ _ h => h) (Or.inl ⟨by rfl, ?_⟩) (by assumption) ?_
            rotate_left
            · intro w1 hSw
              (try dsimp only at hSw)
              go_simp
              (try with_reducible rfl)
            (try dsimp only [Act.put, List.setIfInBounds_toArray, List.set_cons_zero, List.set_cons_succ])
            refine wpAnyH_ready (rs := [3]) (by kernel_rfl) (by simp) ?_
            refine AllReadyH.cons rfl (fun K hK => ?_) AllReadyH.nil
            go_simp
            refine (HP.out _).mono ?_
            rintro e w2 ⟨rfl, hb2⟩
            have HB2 := Lib.hid (Below.trans (Below.drew (Below.refl _ _)) hb2)
            refine hK.out _ _ (HgW.out _ HB2.out) (fun hHeld => ?_)
            clear hK K
            (try dsimp only [Act.put, List.setIfInBounds_toArray, List.set_cons_zero, List.set_cons_succ])
            refine wpAnyH_ready (rs := [5]) (by kernel_rfl) (by simp) ?_
            refine AllReadyH.cons rfl (fun K hK => ?_) AllReadyH.nil
            go_simp
            refine (HTc.out _ HB2.out).mono ?_
            rintro e w3 ⟨rfl, hk3⟩
            exact ⟨rfl, HBad.out _ _ HB2.out hk3⟩
          · skip
            have HBad := Lib.hid (show ∀ w2 w3, Below wr.heap.size wr w2 → Kp (keepG G w.heap.size) w2 w3 → Kp (noneOr 9) W w3 ∧ PIp w.heap.size G full most vars a w (flt full n) w3 from fun w2 w3 hb2 hk3 => by
              obtain ⟨c', f, hGo⟩ := HGo.out
              have hG2 := (hb2.block G (Array.getElem?_eq_some_iff.1 hGo).1).trans hGo
              have h2 := wordsG_bad (j := j + 1) (HT0.out.trans htk)
              have h3 := Hsucc.out
              rw [h2] at h3
              have h4 := HpreL.out _ n _ h3
              refine ⟨(HN.out.trans (Kp.of_below hb2)).trans (keepG_noneOr hG2 hk3), (HKw.out.trans (Kp.of_below hb2)).trans hk3, ?_⟩
              rw [h4]
              rfl)
            have HTc := Lib.hid (show ∀ w2, Below wr.heap.size wr w2 → Calls Tryd.prog 29 #[.pointer (some ⟨G, 0, none⟩), .int .i64 x, .int .i64 n] w2 fun e w3 => e = .panicked (flt full n) ∧ Kp (keepG G w.heap.size) w2 w3 from fun w2 hb2 => (HTk.out w2 hb2).mono fun e w3 h => by
              obtain ⟨h1, h2⟩ := h
              rw [show (g1.1, g1.2) = g1 from rfl, htk] at h2
              exact ⟨h2, h1⟩)
            clear htk
            gi_wp2
            refine wpIn_region_held (S := (fun w' => w'.cell? ⟨gb, 0, none⟩ = some (.pointer (some ⟨G, 0, none⟩)))) hmix (by kernel_rfl) (by rintro ⟨a, w, h⟩; exact h) hgw (fun hHeld => ?_)
            refine wpAnyH_take (i := 0) (v := ?_) rfl (by kernel_rfl) (by kernel_rfl) (by kernel_rfl) (fun _ _ _ h => h) (Or.inl ⟨by rfl, ?_⟩) (by assumption) ?_
            rotate_left
            · intro w1 hSw
              (try dsimp only at hSw)
              go_simp
              (try with_reducible rfl)
            (try dsimp only [Act.put, List.setIfInBounds_toArray, List.set_cons_zero, List.set_cons_succ])
            refine wpAnyH_take (i := 1) (v := ?_) rfl (by kernel_rfl) (by kernel_rfl) (by kernel_rfl) (fun _ _ _ h => h) (Or.inl ⟨by rfl, ?_⟩) (by assumption) ?_
            rotate_left
            · intro w1 hSw
              (try dsimp only at hSw)
              go_simp
              (try with_reducible rfl)
            (try dsimp only [Act.put, List.setIfInBounds_toArray, List.set_cons_zero, List.set_cons_succ])
            refine wpAnyH_take (i := 2) (v := ?_) rfl (by kernel_rfl) (by kernel_rfl) (by kernel_rfl) (fun _ _ _ h => h) (Or.inl ⟨by rfl, ?_⟩) (by assumption) ?_
            rotate_left
            · intro w1 hSw
              (try dsimp only at hSw)
              go_simp
              (try with_reducible rfl)
            (try dsimp only [Act.put, List.setIfInBounds_toArray, List.set_cons_zero, List.set_cons_succ])
            refine wpAnyH_take (i := 4) (v := ?_) rfl (by kernel_rfl) (by kernel_rfl) (by kernel_rfl) (fun _ _ _ h => h) (Or.inl ⟨by rfl, ?_⟩) (by assumption) ?_
            rotate_left
            · intro w1 hSw
              (try dsimp only at hSw)
              go_simp
              (try with_reducible rfl)
            (try dsimp only [Act.put, List.setIfInBounds_toArray, List.set_cons_zero, List.set_cons_succ])
            refine wpAnyH_ready (rs := [3]) (by kernel_rfl) (by simp) ?_
            refine AllReadyH.cons rfl (fun K hK => ?_) AllReadyH.nil
            go_simp
            refine (HP.out _).mono ?_
            rintro e w2 ⟨rfl, hb2⟩
            have HB2 := Lib.hid (Below.trans (Below.drew (Below.refl _ _)) hb2)
            refine hK.out _ _ (HgW.out _ HB2.out) (fun hHeld => ?_)
            clear hK K
            (try dsimp only [Act.put, List.setIfInBounds_toArray, List.set_cons_zero, List.set_cons_succ])
            refine wpAnyH_ready (rs := [5]) (by kernel_rfl) (by simp) ?_
            refine AllReadyH.cons rfl (fun K hK => ?_) AllReadyH.nil
            go_simp
            refine (HTc.out _ HB2.out).mono ?_
            rintro e w3 ⟨rfl, hk3⟩
            exact ⟨rfl, HBad.out _ _ HB2.out hk3⟩
      · obtain rfl : j = ws.length := by omega
        obtain ⟨hKw, hgw, g1, hw1, hok, hga⟩ := HI.out
        rw [List.take_length] at hw1
        have h3 := Hsucc.out
        rw [hw1] at h3
        have HE := Lib.hid (show Kp (noneOr 9) W wr ∧ PI w.heap.size G gb most full vars a w (k + 1) wr from ⟨HN.out, hKw, hgw, g1, h3, hok.more HMw.out, hga⟩)
        clear hKw hgw hw1 hok hga h3 hlt hj HI HN
        gi_wp2
        exact HE.out
  case done =>
    rintro D W ⟨hK, hgw, g, hgl, hok, hga⟩ hD hDl
    rw [List.take_length] at hgl
    have hsW := cell_kp hs hK fun c t f hcf => ⟨fun e => by
      subst e; rw [hG] at hcf; cases hcf
      have := (cell_of_row w sb 0 _ _ _ hG).symm.trans hs
      simp at this, .inr (World.block_lt_of_cell? w _ hs)⟩
    obtain ⟨v, vs, hGo, hRR⟩ := hga
    obtain ⟨g0, g1, g2, g3, g4, f0, f1⟩ := GAt.cells hGo
    have HPm := Lib.hid (show ∀ o, PPm w.heap.size G most full vars g w (W.putObj D o) from fun o => ⟨hK.putHi (by omega), v, vs, (World.putObj_heap_other (fun e => by rw [e, hD] at hGo; cases hGo)).trans hGo, hRR.keep fun b c t f hb hc ht => World.putObj_heap_other fun e => by rw [e, hD] at hc; cases hc⟩)
    have HLn := Lib.hid hgl
    have HD := Lib.hid hD
    have HBh := Lib.hid (fun w => behind_any a w (by omega))
    have HF := Lib.hid (fun w => fail_any 1 (endOf a) w)
    clear hK hok hRR hgl hm hG hm1 hG1 hg1 hcb hD
    refine wpB_of_wp ?_
    rcases g with ⟨out, opn⟩
    cases opn with
    | true =>
      dsimp only at g1
      go_wp2_with (first
        | (go_at_call 32; refine (HBh.out _).mono ?_; rintro e w2 ⟨rfl, rfl⟩)
        | (go_at_call 31; refine (HF.out _).mono ?_; rintro e w2 ⟨rfl, rfl⟩))
      refine ⟨by simp, .inl ⟨_, _, rfl, run_takeDeferred HD.out, ?_⟩⟩
      exact ⟨(HPm.out _).1, by rw [HLn.out]; simp⟩
    | false =>
      dsimp only at g1
      go_wp2
      refine ⟨by simp, .inl ⟨_, _, rfl, run_takeDeferred HD.out, ?_⟩⟩
      exact ⟨.tuple #[], by simp [results, Tryd.results34], (HPm.out _).1, by rw [HLn.out]; exact ⟨rfl, (HPm.out _).2⟩⟩
  case panic =>
    rintro D c W ⟨hK, hc⟩ hD hDl
    refine ⟨by simp, .inl ⟨_, _, rfl, run_takeDeferred hD, ?_⟩⟩
    refine ⟨hK.putHi (by omega), ?_⟩
    rcases hl : linesG most vars ([], false) (linesOf a) with ⟨g, _ | _ | k, n⟩ <;> rw [hl] at hc
    · exact hc.elim
    · exact congrArg _ hc
    · exact congrArg _ hc
end Go.Proofs.YtgfbmidpiamkhaaDoor
