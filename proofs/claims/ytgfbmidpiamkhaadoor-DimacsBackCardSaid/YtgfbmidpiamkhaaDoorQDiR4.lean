/- The reference's Clauses: the clauses of lines. -/
import Derived.Test.YtgfbmidpiamkhaaDoorQDiR2
import Derived.Test.YtgfbmidpiamkhaaDoorQDiR3
import Derived.Test.YtgfbmidpiamkhaaDoorZd
namespace Go.Proofs.YtgfbmidpiamkhaaDoor
open Go.RowKit
open C01 D28

def ClausesPost (L : List Ln) (end_ most vars : Int) (w : World) (e : Ending) (w' : World) : Prop :=
  Below w.heap.size w w' ∧ match linesG most vars ([], false) L with
  | (g, 0, _) => if g.2 = true then e = .returned (.tuple #[.slice none 0 0, .int .i64 end_, .bool false]) else ∃ v, e = .returned (.tuple #[v, .int .i64 0, .bool false]) ∧ RIntss w' (Lt w'.heap.size) v g.1
  | (_, 1, n) => e = .returned (.tuple #[.slice none 0 0, .int .i64 (n : Nat), .bool false])
  | (_, _, n) => e = .returned (.tuple #[.slice none 0 0, .int .i64 (n : Nat), .bool true])
theorem ClausesPost.bad {L : List Ln} {end_ most vars : Int} {w w' : World} {k j : Nat} {g0 g : GS} {c : Nat} (hk : k < L.length) (h0 : linesG most vars ([], false) (L.take k) = (g0, 0, 0)) (hj : wordsG most vars g0 (L[k].2.take j) = (g, c + 1)) (hb : Below w.heap.size w w') (hc : c ≤ 1) :
    ClausesPost L end_ most vars w (.returned (.tuple #[.slice none 0 0, .int .i64 (L[k].1 : Nat), .bool (decide (c = 1))])) w' := by
  have h1 := linesG_succ hk h0
  rw [wordsG_bad hj] at h1
  have h2 := linesG_bad (c := c) (n := L[k].1) (g' := g) h1
  refine ⟨hb, ?_⟩
  rw [h2]
  match c, hc with
  | 0, _ => rfl
  | 1, _ => rfl
theorem takeG_full {most vars n : Int} {g : GS} (h : g.2 = false ∧ most ≤ g.1.length) : takeG most vars g n = (g, 2) := by unfold takeG; rw [if_pos h]
theorem takeG_go {most vars n : Int} {g : GS} {out : List (List Int)} (h : ¬ (g.2 = false ∧ most ≤ g.1.length)) (ho : out = if g.2 = true then g.1 else g.1 ++ [[]]) : takeG most vars g n = if n = 0 then ((out, false), 0) else if 0 ≤ vars ∧ (vars < n ∨ vars < -n) then ((out, true), 1) else ((pushLast out n, true), 0) := by
  unfold takeG; rw [if_neg h, ho]
theorem ag2 {S : Nat → Prop} {w w1 w2 : World} (h1 : Ag S w w1) (h2 : Ag S w w2) : Ag S w1 w2 := fun b hb => (h2 b hb).trans (h1 b hb).symm
set_option maxRecDepth 100000 in
set_option maxHeartbeats 8000000 in
theorem Clauses_any (L : List Ln) (v0 : Value) (end_ most vars : Int) (w : World) (hr : RLines w (Lt w.heap.size) v0 L) (hL : L.length ≤ 3000) (hW : ∀ x ∈ L, x.2.length ≤ 3000) (hv : -1000000000 ≤ vars ∧ vars ≤ 1000000000) :
    Calls Tryd.prog 16 #[v0, .int .i64 end_, .int .i64 most, .int .i64 vars] w (ClausesPost L end_ most vars w) := by
  have HP := Lib.hid (fun a w => Parsed_any a w)
  obtain ⟨A0, c0, rfl, hm0, hat⟩ := hr.open_
  have Hat := Lib.hid hat
  have HL := Lib.hid hL
  have HW := Lib.hid hW
  obtain ⟨N, hN⟩ : ∃ N, N = L.length := ⟨_, rfl⟩
  have HN := Lib.hid hN
  have hNs : N ≤ 3000 := by omega
  obtain ⟨B, hB⟩ : ∃ B, B = w.heap.size := ⟨_, rfl⟩
  have HB := Lib.hid hB
  have Hend := Lib.hid (show ∀ (g : GS) (e : Ending) w', linesG most vars ([], false) (L.take N) = (g, 0, 0) → Below w.heap.size w w' → (if g.2 = true then e = .returned (.tuple #[.slice none 0 0, .int .i64 end_, .bool false]) else ∃ v, e = .returned (.tuple #[v, .int .i64 0, .bool false]) ∧ RIntss w' (Lt w'.heap.size) v g.1) → ClausesPost L end_ most vars w e w' from fun g e w' h1 h2 h3 => ⟨h2, by rw [hN, List.take_length] at h1; rw [h1]; exact h3⟩)
  rw [← hN] at hm0 ⊢
  clear hat hr hL hW hN hB
  go_enter Tryd.func16, Tryd.ntmps16
  go_wp2
  go_loopw [21, 12, 11] (fun iv ov lv wr => ∃ (i : Nat) (g : GS) (A : Option Addr) (c : Nat) (vs : List Value), i ≤ N ∧ iv = .int .i64 i ∧ ov = .bool g.2 ∧ lv = .slice A g.1.length c ∧ Hid (linesG most vars ([], false) (L.take i) = (g, 0, 0)) ∧ Hid (RR wr B (.slice A g.1.length c) vs g.1) ∧ Hid (GOk g (i * 3000)) ∧ Hid (Below w.heap.size w wr)) (fun iv _ _ _ => N - (intOf iv).toNat)
  case atStart => exact ⟨0, ([], false), none, 0, [], Nat.zero_le _, rfl, rfl, rfl, Lib.hid rfl, Lib.hid (RR.nil_ _ _), Lib.hid GOk.start, Lib.hid (Below.refl _ _)⟩
  case round =>
    obtain ⟨wi, hwi⟩ : ∃ w0 : World, w0 = wr := ⟨_, rfl⟩
    rw [← hwi] at hrel ⊢
    clear hwi
    obtain ⟨i, g0, Ai, ci, vsi, hi, rfl, rfl, rfl, HGi, HRi, HKi, HBi⟩ := hrel
    rcases Nat.lt_or_ge i N with hlt | hge
    · have hltL : i < L.length := by rw [← HN.out]; exact hlt
      obtain ⟨b, off, rfl, hb, hx0, u, hx1, hu⟩ := Hat.out.at_ VLn.stable (ag_of_below HBi.out) hltL
      obtain ⟨A2, c2, rfl, hm2, hat2⟩ := hu.open_
      have hq3 := HW.out _ (List.getElem_mem hltL)
      obtain ⟨ws, hws⟩ : ∃ ws, ws = L[i].2 := ⟨_, rfl⟩
      obtain ⟨n, hn⟩ : ∃ n, n = L[i].1 := ⟨_, rfl⟩
      have Hbad := Lib.hid (show ∀ (j : Nat) (g : GS) (c : Nat) w', wordsG most vars g0 (ws.take j) = (g, c + 1) → Below w.heap.size w w' → c ≤ 1 → ClausesPost L end_ most vars w (.returned (.tuple #[.slice none 0 0, .int .i64 (n : Nat), .bool (decide (c = 1))])) w' from fun j g c w' h1 h2 h3 => by rw [hn]; exact ClausesPost.bad hltL HGi.out (by rw [← hws]; exact h1) h2 h3)
      have Hnext := Lib.hid (show ∀ (g : GS), wordsG most vars g0 ws = (g, 0) → linesG most vars ([], false) (L.take (i + 1)) = (g, 0, 0) from fun g h1 => by rw [linesG_succ hltL HGi.out, ← hws, h1])
      rw [← hws] at hx1 hm2 hat2 hq3
      rw [← hn] at hx0
      obtain ⟨q, hq⟩ : ∃ q, q = ws.length := ⟨_, rfl⟩
      have Hq := Lib.hid hq
      have Hat2 := Lib.hid hat2
      rw [← hq] at hx1 hm2 hq3
      have hsi := HBi.out.size
      obtain ⟨P, hP⟩ : ∃ P, P = wi.heap.size := ⟨_, rfl⟩
      obtain ⟨w1, hw1⟩ : ∃ w1, w1 = wi.alloc (.cells #[.int .i64 (n : Nat), .slice A2 q c2] 75) := ⟨_, rfl⟩
      have HB1 := Lib.hid (show Below w.heap.size w w1 by rw [hw1]; exact HBi.out.alloc (by omega) _)
      have HBi1 := Lib.hid (show Below wi.heap.size wi w1 by rw [hw1]; exact below_alloc _ _)
      have HR1 := Lib.hid (HRi.out.up HBi1.out)
      have HC1 := Lib.hid (show w1.heap[P]? = some (.cells #[.int .i64 (n : Nat), .slice A2 q c2] 75 (0, 0)) by rw [hw1, hP]; exact heap_alloc_new _ _)
      have Hw1 := Lib.hid hw1
      have hPB : B ≤ P := by rw [HB.out, hP]; exact hsi
      have HAg := Lib.hid (ag_of_below HBi1.out)
      have HP0 := Lib.hid hP
      clear hu hat2 hws hn hq hw1 hP hb hsi
      go_wp2
      rw [← HP0.out, ← Hw1.out]
      have hy1 : w1.cell? ⟨P, 1, none⟩ = some (.slice A2 q c2) := cell_of_row _ _ 1 _ _ _ HC1.out
      have HG0 := Lib.hid (show wordsG most vars g0 (ws.take 0) = (g0, 0) from rfl)
      go_loopw [28, 12, 11] (fun jv ov lv wr => ∃ (j : Nat) (g : GS) (A : Option Addr) (c : Nat) (vs : List Value), j ≤ q ∧ jv = .int .i64 j ∧ ov = .bool g.2 ∧ lv = .slice A g.1.length c ∧ Hid (wordsG most vars g0 (ws.take j) = (g, 0)) ∧ Hid (RR wr B (.slice A g.1.length c) vs g.1) ∧ Hid (GOk g (i * 3000 + j)) ∧ Hid (wr.heap[P]? = some (.cells #[.int .i64 (n : Nat), .slice A2 q c2] 75 (0, 0))) ∧ Hid (Below w.heap.size w wr)) (fun jv _ _ _ => q - (intOf jv).toNat)
      case atStart => exact ⟨0, g0, Ai, ci, vsi, Nat.zero_le _, rfl, rfl, rfl, HG0, HR1, HKi, HC1, HB1⟩
      case round =>
        obtain ⟨wk, hwk⟩ : ∃ w0 : World, w0 = wr := ⟨_, rfl⟩
        rw [← hwk] at hrel ⊢
        clear hwk
        obtain ⟨j, ⟨out, opn⟩, A, c, vs, hj, rfl, rfl, rfl, HGj, HRj, HKj, HCj, HBj⟩ := hrel
        dsimp only at HRj ⊢
        rcases Nat.lt_or_ge j q with hlt2 | hge2
        · have hltw : j < ws.length := by rw [← Hq.out]; exact hlt2
          obtain ⟨b2, off2, u2, rfl, hb2, hz, hu2⟩ := Hat2.out.at_ RT.stable (ag2 (ag_of_below HBi.out) (ag_of_below HBj.out)) hltw
          obtain rfl : u2 = sv ws[j] := hu2
          have Hsu := Lib.hid (wordsG_succ (most := most) (vars := vars) hltw HGj.out)
          have hK := HKj.out
          have hol : out.length ≤ 9006000 := by have h : out.length ≤ i * 3000 + j := hK.len; omega
          have hrl : ∀ c ∈ out, c.length ≤ 9006000 := fun c hc => by have := hK.row c hc; omega
          have hone := hK.ne
          have hy0 : wk.cell? ⟨P, 0, none⟩ = some (.int .i64 (n : Nat)) := cell_of_row _ _ 0 _ _ _ HCj.out
          obtain ⟨word, hwo⟩ : ∃ x, x = ws[j] := ⟨_, rfl⟩
          rw [← hwo] at hz Hsu
          have hsk := HBj.out.size
          clear hwo hK hb2
          cases hp : parseL word with
          | none =>
            have Hv := Lib.hid (show ParsedV word = .tuple #[.int .i64 0, .bool false] by unfold ParsedV; rw [hp]; rfl)
            have Hgo := Lib.hid (Hsu.out.trans (show _ = ((out, opn), 0 + 1) by rw [hp]))
            clear hp Hsu hone hrl
            go_wp2_with (go_at_call 36; refine (HP.out _ _).mono ?_; rintro e w2 ⟨rfl, rfl⟩; rw [Hv.out])
            go_quiet (fail)
            go_wp2
            go_ret3
            exact Hbad.out _ _ _ _ Hgo.out (below_drewN HBj.out _) (by omega)
          | some x =>
            have Hv := Lib.hid (show ParsedV word = .tuple #[.int .i64 x, .bool true] by unfold ParsedV; rw [hp]; rfl)
            have Hgo := Lib.hid (Hsu.out.trans (show _ = takeG most vars (out, opn) x by rw [hp]))
            have hxr := parseL_range hp
            clear hp Hsu
            by_cases hfull : opn = false ∧ most ≤ (out.length : Int)
            · have Hgo2 := Lib.hid (Hgo.out.trans (takeG_full hfull))
              obtain ⟨rfl, hfl⟩ := hfull
              clear hone hrl Hgo
              go_wp2_with (go_at_call 36; refine (HP.out _ _).mono ?_; rintro e w2 ⟨rfl, rfl⟩; rw [Hv.out])
              go_quiet (fail)
              go_wp2
              go_ret3
              exact Hbad.out _ _ _ _ Hgo2.out (below_drewN HBj.out _) (by omega)
            obtain ⟨out', hout⟩ : ∃ out', out' = if opn = true then out else out ++ [[]] := ⟨_, rfl⟩
            have Htk := Lib.hid (takeG_go (g := (out, opn)) (vars := vars) (n := x) hfull hout)
            have HKt := Lib.hid (show ∀ g', takeG most vars (out, opn) x = (g', 0) → GOk g' (i * 3000 + (j + 1)) from fun g' h => by have h1 := HKj.out.take (most := most) (vars := vars) x; rw [h] at h1; exact h1)
            have hl' : out'.length ≤ 9006001 := by rw [hout]; split <;> first | omega | (simp; omega)
            have hr' : ∀ c ∈ out', c.length ≤ 9006000 := by
              rw [hout]; split
              · exact hrl
              · intro c hc; simp only [List.mem_append, List.mem_singleton] at hc
                rcases hc with hc | rfl
                · exact hrl c hc
                · simp
            have hne : out' ≠ [] := by
              rw [hout]; cases opn with
              | true => exact hone rfl
              | false => simp
            have Hout := Lib.hid hout
            have hff : opn = false → ¬ most ≤ (out.length : Int) := fun h1 h2 => hfull ⟨h1, h2⟩
            clear hone hrl hout hfull
            have Hr' := Lib.hid hr'
            have Hne := Lib.hid hne
            clear hr' hne
            cases opn with
            | true =>
              have hPk : P < wk.heap.size := (Array.getElem?_eq_some_iff.1 HCj.out).1
              have hwv : IntKind.i64.wrap (-vars) = -vars := by rw [IntKind.wrap_i64]; omega
              go_upto_if 52 with (go_at_call 36; refine (HP.out _ _).mono ?_; rintro e w2 ⟨rfl, rfl⟩; rw [Hv.out])
              go_cut [11] (fun v11 wx => ∃ (A5 : Option Addr) (c5 : Nat) (vs5 : List Value), v11 = .slice A5 out'.length c5 ∧ Hid (RR wx B (.slice A5 out'.length c5) vs5 out') ∧ Hid (wx.heap[P]? = some (.cells #[.int .i64 (n : Nat), .slice (some ⟨b2, off2, none⟩) q c2] 75 (0, 0))) ∧ Hid (Below w.heap.size w wx))
              case first =>
                obtain rfl : out' = out := Hout.out
                go_wp2
                go_meet
                exact ⟨A, c, vs, rfl, HRj, HCj, HBj⟩
              case rest =>
                obtain ⟨A5, c5, vs5, rfl, HR5, HC5, HB5⟩ := hcut
                have hy5 : wc.cell? ⟨P, 0, none⟩ = some (.int .i64 (n : Nat)) := cell_of_row _ _ 0 _ _ _ HC5.out
                have hPc : P < wc.heap.size := (Array.getElem?_eq_some_iff.1 HC5.out).1
                have hzc : w.heap.size ≤ wc.heap.size := HB5.out.size
                by_cases hz : x = 0
                · subst hz
                  have Hgo3 := Lib.hid (Hgo.out.trans (Htk.out.trans (if_pos rfl)))
                  have HK3 := Lib.hid (HKt.out _ (Htk.out.trans (if_pos rfl)))
                  go_wp2
                  go_roundw
                  case rel => exact ⟨j + 1, (out', false), A5, c5, vs5, by omega, by go_num, rfl, rfl, Hgo3, HR5, HK3, HC5, HB5⟩
                  case measure => simp [intOf]; omega
                have hz2 : (x == 0) = false := by simp [hz]
                have hz3 : (x != 0) = true := by simp [hz]
                by_cases hb : 0 ≤ vars ∧ (vars < x ∨ vars < -x)
                · have Hgo3 := Lib.hid (Hgo.out.trans (Htk.out.trans ((if_neg hz).trans (if_pos hb))))
                  obtain ⟨h0v, hb⟩ := hb
                  rcases Int.lt_or_le vars x with h1 | h1
                  · clear hb hz
                    go_wp2
                    go_quiet (fail)
                    go_wp2
                    go_ret3
                    exact Hbad.out _ _ _ _ Hgo3.out (below_drewN HB5.out _) (by omega)
                  · have h2 : x < -vars := by omega
                    have h3 : decide (vars < x) = false := decide_eq_false (by omega)
                    clear hb hz
                    go_wp2
                    go_quiet (fail)
                    go_wp2
                    go_ret3
                    exact Hbad.out _ _ _ _ Hgo3.out (below_drewN HB5.out _) (by omega)
                have Hgo3 := Lib.hid (Hgo.out.trans (Htk.out.trans ((if_neg hz).trans (if_neg hb))))
                have HK3 := Lib.hid (HKt.out _ (Htk.out.trans ((if_neg hz).trans (if_neg hb))))
                obtain ⟨k, hk⟩ : ∃ k, k + 1 = out'.length := ⟨out'.length - 1, by have := List.length_pos_iff.2 Hne.out; omega⟩
                have hkl : k < out'.length := by omega
                obtain ⟨gw, cw, hgw⟩ : ∃ gw cw, Value.slice A5 out'.length c5 = .slice (some ⟨gw, 0, none⟩) out'.length cw := by obtain ⟨g, c2, e, _⟩ := own_block HR5.out.own (by omega); exact ⟨g, c2, e⟩
                simp only [Value.slice.injEq, true_and] at hgw
                obtain ⟨rfl, rfl⟩ := hgw
                obtain ⟨u, hu⟩ : ∃ u, vs5[k]? = some u := ⟨_, List.getElem?_eq_getElem (by rw [HR5.out.len]; exact hkl)⟩
                obtain ⟨cl, hc⟩ : ∃ c, out'[k]? = some c := ⟨_, List.getElem?_eq_getElem hkl⟩
                have hrow := HR5.out.row k u cl hu hc
                obtain ⟨Ar, cr, rfl⟩ := own_shape hrow
                have Hrow := Lib.hid hrow
                have Hvk := Lib.hid hu
                have Hck := Lib.hid hc
                have hcl : cl.length ≤ 9006000 := Hr'.out cl (List.mem_of_getElem? hc)
                have HPL := Lib.hid (show pushLast out' x = out'.set k (cl ++ [x]) from pushLast_set hc hk)
                have HPLl := Lib.hid (show (pushLast out' x).length = out'.length by rw [HPL.out]; simp)
                have d0 : wc.cell? ⟨gw, k, none⟩ = some (.slice Ar cl.length cr) := by rw [HR5.out.own.cellAt k (by omega)]; exact hu
                have hgwl := (HR5.out.own.lt gw rfl).2
                have hPg : P ≠ gw := fun e => by subst e; obtain ⟨q2, hq2⟩ := own_obj HR5.out.own (g := P) rfl; rw [HC5.out] at hq2; exact absurd (Obj.cells.inj (Option.some.inj hq2)).2.1 (by decide)
                have hws : IntKind.i64.wrap ((out'.length : Int) - 1) = (k : Int) := by rw [IntKind.wrap_i64]; omega
                have hk0 : (0 : Int) ≤ (k : Int) := by omega
                have hks : (k : Int) < (out'.length : Int) := by omega
                clear hrow hu hc hk hgwl
                have hways : vars < 0 ∨ (0 ≤ vars ∧ ¬ vars < x ∧ ¬ x < -vars) := by omega
                clear hb hz
                rcases hways with h0v | ⟨h0v, h1, h2⟩
                · have h3 : decide (0 ≤ vars) = false := decide_eq_false (by omega)
                  go_wp2_with (at_builtin; go_loud (refine wpList_push rfl _ _ _ rfl eInt (v := .slice Ar cl.length cr) rfl (World.ownsRow.alloc Hrow.out _) wc.heap.size (nV x) rfl (by simp [go_sem]) rfl (by omega) (by simp; omega) ?_; intro v1 w5 hown hg hat; obtain ⟨A7, c7, rfl⟩ := own_shape hown; have H7 := Lib.hid (RR.pushLast HR5.out (below_alloc wc (.cells #[nV x] 3)) Hvk.out Hck.out hown hg hat); have HC7 := Lib.hid ((hg.block P (by simp; omega) (fun e => absurd (own_obj Hrow.out e.symm) (by rintro ⟨q0, hq0⟩; rw [HC5.out] at hq0; exact absurd (Obj.cells.inj (Option.some.inj hq0)).2.1 (by decide)))).trans ((below_alloc wc (.cells #[nV x] 3)).block P hPc |>.trans HC5.out)); have HB7 := Lib.hid ((HB5.out.alloc (by omega) (.cells #[nV x] 3)).grown hg (by simp; omega) (fun q0 hq0 => Nat.le_trans (Nat.le_of_eq HB.out.symm) (Hrow.out.lt q0 hq0).1)); have hgn : some gw ≠ (Value.slice Ar cl.length cr).ownBlock := fun e => (by obtain ⟨q1, hq1⟩ := own_obj Hrow.out e.symm; obtain ⟨q2, hq2⟩ := own_obj HR5.out.own (g := gw) rfl; rw [hq2] at hq1; exact absurd (Obj.cells.inj (Option.some.inj hq1)).2.1 (by decide)); have HO7 := Lib.hid (show w5.ownsRow B 56 1 (.slice (some ⟨gw, 0, none⟩) out'.length c5) out'.length vs5 from own_ag HR5.out.own fun g hg' => (by cases hg'; exact (hg.block gw (by simp; have := (HR5.out.own.lt gw rfl).2; omega) hgn).trans ((below_alloc wc (.cells #[nV x] 3)).block gw (HR5.out.own.lt gw rfl).2))); have hfz : w5.frozen? ⟨gw, k, none⟩ = false := (by obtain ⟨q2, hq2⟩ := own_obj HO7.out (g := gw) rfl; exact frozen_of_row _ _ _ _ _ hq2); have hcw5 : w5.cell? ⟨gw, k, none⟩ = some (.slice Ar cl.length cr) := (by rw [HO7.out.cellAt k (by omega)]; exact Hvk.out); clear hown hg hat hgn))
                  go_roundw
                  case rel => exact ⟨j + 1, (pushLast out' x, true), some ⟨gw, 0, none⟩, c5, vs5.set k (.slice A7 (cl.length + 1) c7), by omega, by go_num, rfl, by rw [HPLl.out], Hgo3, Lib.hid (by rw [HPLl.out, HPL.out]; simpa using H7.out), HK3, Lib.hid ((Below.heap_setCell w5 ⟨gw, k, none⟩ _ P hPg).trans HC7.out), Lib.hid (HB7.out.setCell (p := ⟨gw, k, none⟩) (Nat.le_trans (Nat.le_of_eq HB.out.symm) (HR5.out.own.lt gw rfl).1) _)⟩
                  case measure => simp [intOf]; omega
                · have h3 : decide (vars < x) = false := decide_eq_false h1
                  have h4 : decide (x < -vars) = false := decide_eq_false h2
                  go_wp2_with (at_builtin; go_loud (refine wpList_push rfl _ _ _ rfl eInt (v := .slice Ar cl.length cr) rfl (World.ownsRow.alloc Hrow.out _) wc.heap.size (nV x) rfl (by simp [go_sem]) rfl (by omega) (by simp; omega) ?_; intro v1 w5 hown hg hat; obtain ⟨A7, c7, rfl⟩ := own_shape hown; have H7 := Lib.hid (RR.pushLast HR5.out (below_alloc wc (.cells #[nV x] 3)) Hvk.out Hck.out hown hg hat); have HC7 := Lib.hid ((hg.block P (by simp; omega) (fun e => absurd (own_obj Hrow.out e.symm) (by rintro ⟨q0, hq0⟩; rw [HC5.out] at hq0; exact absurd (Obj.cells.inj (Option.some.inj hq0)).2.1 (by decide)))).trans ((below_alloc wc (.cells #[nV x] 3)).block P hPc |>.trans HC5.out)); have HB7 := Lib.hid ((HB5.out.alloc (by omega) (.cells #[nV x] 3)).grown hg (by simp; omega) (fun q0 hq0 => Nat.le_trans (Nat.le_of_eq HB.out.symm) (Hrow.out.lt q0 hq0).1)); have hgn : some gw ≠ (Value.slice Ar cl.length cr).ownBlock := fun e => (by obtain ⟨q1, hq1⟩ := own_obj Hrow.out e.symm; obtain ⟨q2, hq2⟩ := own_obj HR5.out.own (g := gw) rfl; rw [hq2] at hq1; exact absurd (Obj.cells.inj (Option.some.inj hq1)).2.1 (by decide)); have HO7 := Lib.hid (show w5.ownsRow B 56 1 (.slice (some ⟨gw, 0, none⟩) out'.length c5) out'.length vs5 from own_ag HR5.out.own fun g hg' => (by cases hg'; exact (hg.block gw (by simp; have := (HR5.out.own.lt gw rfl).2; omega) hgn).trans ((below_alloc wc (.cells #[nV x] 3)).block gw (HR5.out.own.lt gw rfl).2))); have hfz : w5.frozen? ⟨gw, k, none⟩ = false := (by obtain ⟨q2, hq2⟩ := own_obj HO7.out (g := gw) rfl; exact frozen_of_row _ _ _ _ _ hq2); have hcw5 : w5.cell? ⟨gw, k, none⟩ = some (.slice Ar cl.length cr) := (by rw [HO7.out.cellAt k (by omega)]; exact Hvk.out); clear hown hg hat hgn))
                  go_roundw
                  case rel => exact ⟨j + 1, (pushLast out' x, true), some ⟨gw, 0, none⟩, c5, vs5.set k (.slice A7 (cl.length + 1) c7), by omega, by go_num, rfl, by rw [HPLl.out], Hgo3, Lib.hid (by rw [HPLl.out, HPL.out]; simpa using H7.out), HK3, Lib.hid ((Below.heap_setCell w5 ⟨gw, k, none⟩ _ P hPg).trans HC7.out), Lib.hid (HB7.out.setCell (p := ⟨gw, k, none⟩) (Nat.le_trans (Nat.le_of_eq HB.out.symm) (HR5.out.own.lt gw rfl).1) _)⟩
                  case measure => simp [intOf]; omega
            | false =>
              have hfl : decide (most ≤ (out.length : Int)) = false := decide_eq_false (hff rfl)
              have hPk : P < wk.heap.size := (Array.getElem?_eq_some_iff.1 HCj.out).1
              have hwv : IntKind.i64.wrap (-vars) = -vars := by rw [IntKind.wrap_i64]; omega
              go_upto_if 52 with (go_at_call 36; refine (HP.out _ _).mono ?_; rintro e w2 ⟨rfl, rfl⟩; rw [Hv.out])
              go_cut [11] (fun v11 wx => ∃ (A5 : Option Addr) (c5 : Nat) (vs5 : List Value), v11 = .slice A5 out'.length c5 ∧ Hid (RR wx B (.slice A5 out'.length c5) vs5 out') ∧ Hid (wx.heap[P]? = some (.cells #[.int .i64 (n : Nat), .slice (some ⟨b2, off2, none⟩) q c2] 75 (0, 0))) ∧ Hid (Below w.heap.size w wx))
              case first =>
                obtain rfl : out' = out ++ [[]] := Hout.out
                go_wp2_with (at_builtin; go_loud (refine wpList_push rfl _ _ _ rfl eRow (v := .slice A out.length c) rfl (World.ownsRow.alloc HRj.out.own _) w2.heap.size (.slice none 0 0) rfl (by simp [go_sem]) rfl (by omega) (by simp; omega) ?_; intro v1 w5 hown1 hg1 hat1; obtain ⟨A5, c5, rfl⟩ := own_shape hown1; have HR5 := Lib.hid (HRj.out.pushNil (below_alloc w2 (.cells #[.slice none 0 0] 56)) hown1 hg1); have HC5 := Lib.hid ((hg1.block P (by simp; omega) (fun e => absurd (own_obj HRj.out.own e.symm) (by rintro ⟨q0, hq0⟩; rw [HCj.out] at hq0; exact absurd (Obj.cells.inj (Option.some.inj hq0)).2.1 (by decide)))).trans ((below_alloc w2 (.cells #[.slice none 0 0] 56)).block P hPk |>.trans HCj.out)); have HB5 := Lib.hid ((HBj.out.alloc (by omega) (.cells #[.slice none 0 0] 56)).grown hg1 (by simp; omega) (fun q0 hq0 => Nat.le_trans (Nat.le_of_eq HB.out.symm) (World.ownsRow.lt HRj.out.own q0 hq0).1)); clear hown1 hg1 hat1))
                go_meet
                rw [show (out ++ [[]] : List (List Int)).length = out.length + 1 by simp]
                exact ⟨A5, c5, _, rfl, by simpa using HR5, HC5, HB5⟩
              case rest =>
                obtain ⟨A5, c5, vs5, rfl, HR5, HC5, HB5⟩ := hcut
                have hy5 : wc.cell? ⟨P, 0, none⟩ = some (.int .i64 (n : Nat)) := cell_of_row _ _ 0 _ _ _ HC5.out
                have hPc : P < wc.heap.size := (Array.getElem?_eq_some_iff.1 HC5.out).1
                have hzc : w.heap.size ≤ wc.heap.size := HB5.out.size
                by_cases hz : x = 0
                · subst hz
                  have Hgo3 := Lib.hid (Hgo.out.trans (Htk.out.trans (if_pos rfl)))
                  have HK3 := Lib.hid (HKt.out _ (Htk.out.trans (if_pos rfl)))
                  go_wp2
                  go_roundw
                  case rel => exact ⟨j + 1, (out', false), A5, c5, vs5, by omega, by go_num, rfl, rfl, Hgo3, HR5, HK3, HC5, HB5⟩
                  case measure => simp [intOf]; omega
                have hz2 : (x == 0) = false := by simp [hz]
                have hz3 : (x != 0) = true := by simp [hz]
                by_cases hb : 0 ≤ vars ∧ (vars < x ∨ vars < -x)
                · have Hgo3 := Lib.hid (Hgo.out.trans (Htk.out.trans ((if_neg hz).trans (if_pos hb))))
                  obtain ⟨h0v, hb⟩ := hb
                  rcases Int.lt_or_le vars x with h1 | h1
                  · clear hb hz
                    go_wp2
                    go_quiet (fail)
                    go_wp2
                    go_ret3
                    exact Hbad.out _ _ _ _ Hgo3.out (below_drewN HB5.out _) (by omega)
                  · have h2 : x < -vars := by omega
                    have h3 : decide (vars < x) = false := decide_eq_false (by omega)
                    clear hb hz
                    go_wp2
                    go_quiet (fail)
                    go_wp2
                    go_ret3
                    exact Hbad.out _ _ _ _ Hgo3.out (below_drewN HB5.out _) (by omega)
                have Hgo3 := Lib.hid (Hgo.out.trans (Htk.out.trans ((if_neg hz).trans (if_neg hb))))
                have HK3 := Lib.hid (HKt.out _ (Htk.out.trans ((if_neg hz).trans (if_neg hb))))
                obtain ⟨k, hk⟩ : ∃ k, k + 1 = out'.length := ⟨out'.length - 1, by have := List.length_pos_iff.2 Hne.out; omega⟩
                have hkl : k < out'.length := by omega
                obtain ⟨gw, cw, hgw⟩ : ∃ gw cw, Value.slice A5 out'.length c5 = .slice (some ⟨gw, 0, none⟩) out'.length cw := by obtain ⟨g, c2, e, _⟩ := own_block HR5.out.own (by omega); exact ⟨g, c2, e⟩
                simp only [Value.slice.injEq, true_and] at hgw
                obtain ⟨rfl, rfl⟩ := hgw
                obtain ⟨u, hu⟩ : ∃ u, vs5[k]? = some u := ⟨_, List.getElem?_eq_getElem (by rw [HR5.out.len]; exact hkl)⟩
                obtain ⟨cl, hc⟩ : ∃ c, out'[k]? = some c := ⟨_, List.getElem?_eq_getElem hkl⟩
                have hrow := HR5.out.row k u cl hu hc
                obtain ⟨Ar, cr, rfl⟩ := own_shape hrow
                have Hrow := Lib.hid hrow
                have Hvk := Lib.hid hu
                have Hck := Lib.hid hc
                have hcl : cl.length ≤ 9006000 := Hr'.out cl (List.mem_of_getElem? hc)
                have HPL := Lib.hid (show pushLast out' x = out'.set k (cl ++ [x]) from pushLast_set hc hk)
                have HPLl := Lib.hid (show (pushLast out' x).length = out'.length by rw [HPL.out]; simp)
                have d0 : wc.cell? ⟨gw, k, none⟩ = some (.slice Ar cl.length cr) := by rw [HR5.out.own.cellAt k (by omega)]; exact hu
                have hgwl := (HR5.out.own.lt gw rfl).2
                have hPg : P ≠ gw := fun e => by subst e; obtain ⟨q2, hq2⟩ := own_obj HR5.out.own (g := P) rfl; rw [HC5.out] at hq2; exact absurd (Obj.cells.inj (Option.some.inj hq2)).2.1 (by decide)
                have hws : IntKind.i64.wrap ((out'.length : Int) - 1) = (k : Int) := by rw [IntKind.wrap_i64]; omega
                have hk0 : (0 : Int) ≤ (k : Int) := by omega
                have hks : (k : Int) < (out'.length : Int) := by omega
                clear hrow hu hc hk hgwl
                have hways : vars < 0 ∨ (0 ≤ vars ∧ ¬ vars < x ∧ ¬ x < -vars) := by omega
                clear hb hz
                rcases hways with h0v | ⟨h0v, h1, h2⟩
                · have h3 : decide (0 ≤ vars) = false := decide_eq_false (by omega)
                  go_wp2_with (at_builtin; go_loud (refine wpList_push rfl _ _ _ rfl eInt (v := .slice Ar cl.length cr) rfl (World.ownsRow.alloc Hrow.out _) wc.heap.size (nV x) rfl (by simp [go_sem]) rfl (by omega) (by simp; omega) ?_; intro v1 w5 hown hg hat; obtain ⟨A7, c7, rfl⟩ := own_shape hown; have H7 := Lib.hid (RR.pushLast HR5.out (below_alloc wc (.cells #[nV x] 3)) Hvk.out Hck.out hown hg hat); have HC7 := Lib.hid ((hg.block P (by simp; omega) (fun e => absurd (own_obj Hrow.out e.symm) (by rintro ⟨q0, hq0⟩; rw [HC5.out] at hq0; exact absurd (Obj.cells.inj (Option.some.inj hq0)).2.1 (by decide)))).trans ((below_alloc wc (.cells #[nV x] 3)).block P hPc |>.trans HC5.out)); have HB7 := Lib.hid ((HB5.out.alloc (by omega) (.cells #[nV x] 3)).grown hg (by simp; omega) (fun q0 hq0 => Nat.le_trans (Nat.le_of_eq HB.out.symm) (Hrow.out.lt q0 hq0).1)); have hgn : some gw ≠ (Value.slice Ar cl.length cr).ownBlock := fun e => (by obtain ⟨q1, hq1⟩ := own_obj Hrow.out e.symm; obtain ⟨q2, hq2⟩ := own_obj HR5.out.own (g := gw) rfl; rw [hq2] at hq1; exact absurd (Obj.cells.inj (Option.some.inj hq1)).2.1 (by decide)); have HO7 := Lib.hid (show w5.ownsRow B 56 1 (.slice (some ⟨gw, 0, none⟩) out'.length c5) out'.length vs5 from own_ag HR5.out.own fun g hg' => (by cases hg'; exact (hg.block gw (by simp; have := (HR5.out.own.lt gw rfl).2; omega) hgn).trans ((below_alloc wc (.cells #[nV x] 3)).block gw (HR5.out.own.lt gw rfl).2))); have hfz : w5.frozen? ⟨gw, k, none⟩ = false := (by obtain ⟨q2, hq2⟩ := own_obj HO7.out (g := gw) rfl; exact frozen_of_row _ _ _ _ _ hq2); have hcw5 : w5.cell? ⟨gw, k, none⟩ = some (.slice Ar cl.length cr) := (by rw [HO7.out.cellAt k (by omega)]; exact Hvk.out); clear hown hg hat hgn))
                  go_roundw
                  case rel => exact ⟨j + 1, (pushLast out' x, true), some ⟨gw, 0, none⟩, c5, vs5.set k (.slice A7 (cl.length + 1) c7), by omega, by go_num, rfl, by rw [HPLl.out], Hgo3, Lib.hid (by rw [HPLl.out, HPL.out]; simpa using H7.out), HK3, Lib.hid ((Below.heap_setCell w5 ⟨gw, k, none⟩ _ P hPg).trans HC7.out), Lib.hid (HB7.out.setCell (p := ⟨gw, k, none⟩) (Nat.le_trans (Nat.le_of_eq HB.out.symm) (HR5.out.own.lt gw rfl).1) _)⟩
                  case measure => simp [intOf]; omega
                · have h3 : decide (vars < x) = false := decide_eq_false h1
                  have h4 : decide (x < -vars) = false := decide_eq_false h2
                  go_wp2_with (at_builtin; go_loud (refine wpList_push rfl _ _ _ rfl eInt (v := .slice Ar cl.length cr) rfl (World.ownsRow.alloc Hrow.out _) wc.heap.size (nV x) rfl (by simp [go_sem]) rfl (by omega) (by simp; omega) ?_; intro v1 w5 hown hg hat; obtain ⟨A7, c7, rfl⟩ := own_shape hown; have H7 := Lib.hid (RR.pushLast HR5.out (below_alloc wc (.cells #[nV x] 3)) Hvk.out Hck.out hown hg hat); have HC7 := Lib.hid ((hg.block P (by simp; omega) (fun e => absurd (own_obj Hrow.out e.symm) (by rintro ⟨q0, hq0⟩; rw [HC5.out] at hq0; exact absurd (Obj.cells.inj (Option.some.inj hq0)).2.1 (by decide)))).trans ((below_alloc wc (.cells #[nV x] 3)).block P hPc |>.trans HC5.out)); have HB7 := Lib.hid ((HB5.out.alloc (by omega) (.cells #[nV x] 3)).grown hg (by simp; omega) (fun q0 hq0 => Nat.le_trans (Nat.le_of_eq HB.out.symm) (Hrow.out.lt q0 hq0).1)); have hgn : some gw ≠ (Value.slice Ar cl.length cr).ownBlock := fun e => (by obtain ⟨q1, hq1⟩ := own_obj Hrow.out e.symm; obtain ⟨q2, hq2⟩ := own_obj HR5.out.own (g := gw) rfl; rw [hq2] at hq1; exact absurd (Obj.cells.inj (Option.some.inj hq1)).2.1 (by decide)); have HO7 := Lib.hid (show w5.ownsRow B 56 1 (.slice (some ⟨gw, 0, none⟩) out'.length c5) out'.length vs5 from own_ag HR5.out.own fun g hg' => (by cases hg'; exact (hg.block gw (by simp; have := (HR5.out.own.lt gw rfl).2; omega) hgn).trans ((below_alloc wc (.cells #[nV x] 3)).block gw (HR5.out.own.lt gw rfl).2))); have hfz : w5.frozen? ⟨gw, k, none⟩ = false := (by obtain ⟨q2, hq2⟩ := own_obj HO7.out (g := gw) rfl; exact frozen_of_row _ _ _ _ _ hq2); have hcw5 : w5.cell? ⟨gw, k, none⟩ = some (.slice Ar cl.length cr) := (by rw [HO7.out.cellAt k (by omega)]; exact Hvk.out); clear hown hg hat hgn))
                  go_roundw
                  case rel => exact ⟨j + 1, (pushLast out' x, true), some ⟨gw, 0, none⟩, c5, vs5.set k (.slice A7 (cl.length + 1) c7), by omega, by go_num, rfl, by rw [HPLl.out], Hgo3, Lib.hid (by rw [HPLl.out, HPL.out]; simpa using H7.out), HK3, Lib.hid ((Below.heap_setCell w5 ⟨gw, k, none⟩ _ P hPg).trans HC7.out), Lib.hid (HB7.out.setCell (p := ⟨gw, k, none⟩) (Nat.le_trans (Nat.le_of_eq HB.out.symm) (HR5.out.own.lt gw rfl).1) _)⟩
                  case measure => simp [intOf]; omega
        · obtain rfl : j = q := by omega
          have HX := Lib.hid (Hnext.out (out, opn) (by have := HGj.out; rwa [Hq.out, List.take_length] at this))
          have HK1 := Lib.hid (HKj.out.more (show i * 3000 + j ≤ (i + 1) * 3000 by omega))
          go_wp2
          go_roundw
          case rel => exact ⟨i + 1, (out, opn), A, c, vs, by omega, by go_num, rfl, rfl, HX, HRj, HK1, HBj⟩
          case measure => simp [intOf]; omega
    · obtain rfl : i = N := by omega
      obtain ⟨out, opn⟩ := g0
      dsimp only at HRi ⊢
      cases opn with
      | true =>
        go_wp2
        go_ret3
        exact Hend.out _ _ _ HGi.out HBi.out rfl
      | false =>
        go_wp2
        go_ret3
        exact Hend.out _ _ _ HGi.out HBi.out ⟨_, rfl, Stable.sub RIntss.stable HRi.out.reads (fun b h => h.2)⟩
end Go.Proofs.YtgfbmidpiamkhaaDoor
