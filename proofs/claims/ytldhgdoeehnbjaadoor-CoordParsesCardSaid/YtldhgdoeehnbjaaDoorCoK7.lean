/- CoordParses: the law, walked. (Written by mkCoK7.py.) -/
import Derived.Test.YtldhgdoeehnbjaaDoorCoK4
import Derived.Test.YtldhgdoeehnbjaaDoorCoW11
import Derived.Test.YtldhgdoeehnbjaaDoorCoW12
namespace Go.Proofs.YtldhgdoeehnbjaaDoor
open Go.RowKit

theorem mayG_no : mayG ⟨#[]⟩ ⟨#[]⟩ ⟨#[]⟩ = false := by decide +kernel
theorem mayK_no : mayK ⟨#[]⟩ ⟨#[]⟩ ⟨#[]⟩ ⟨#[]⟩ = false := by decide +kernel
theorem gav_two (a b c : ByteArray) (x : Bool) : ∃ g1 g2 g3 n, ((x = true ∧ g1 = a ∧ g2 = b ∧ g3 = c ∧ n = 0) ∨ (x = false ∧ g1 = ⟨#[]⟩ ∧ g2 = ⟨#[]⟩ ∧ g3 = ⟨#[]⟩ ∧ n = 1)) ∧ gavV (if x = true then some (a, b, c) else none) = .tuple #[.agg #[.string g1, .string g2, .string g3], .int .i64 n] := by
  cases x with
  | true => exact ⟨a, b, c, 0, .inl ⟨rfl, rfl, rfl, rfl, rfl⟩, rfl⟩
  | false => exact ⟨⟨#[]⟩, ⟨#[]⟩, ⟨#[]⟩, 1, .inr ⟨rfl, rfl, rfl, rfl, rfl⟩, rfl⟩
theorem key_two (a b c d : ByteArray) (x : Bool) : ∃ g1 g2 g3 g4 n, ((x = true ∧ g1 = a ∧ g2 = b ∧ g3 = c ∧ g4 = d ∧ n = 0) ∨ (x = false ∧ g1 = ⟨#[]⟩ ∧ g2 = ⟨#[]⟩ ∧ g3 = ⟨#[]⟩ ∧ g4 = ⟨#[]⟩ ∧ n = 1)) ∧ keyV (if x = true then some (a, b, c, d) else none) = .tuple #[.agg #[.string g1, .string g2, .string g3, .string g4], .int .i64 n] := by
  cases x with
  | true => exact ⟨a, b, c, d, 0, .inl ⟨rfl, rfl, rfl, rfl, rfl, rfl⟩, rfl⟩
  | false => exact ⟨⟨#[]⟩, ⟨#[]⟩, ⟨#[]⟩, ⟨#[]⟩, 1, .inr ⟨rfl, rfl, rfl, rfl, rfl, rfl⟩, rfl⟩
abbrev zG : Value := .agg #[.string ⟨#[]⟩, .string ⟨#[]⟩, .string ⟨#[]⟩]
abbrev zK : Value := .agg #[.string ⟨#[]⟩, .string ⟨#[]⟩, .string ⟨#[]⟩, .string ⟨#[]⟩]
theorem Calls.cast {P : Program} {f : FuncId} {args : Array Value} {w : World} {v v' : Value} {R : World → Prop} (e : v = v') (h : Calls P f args w fun x w' => x = .returned v ∧ R w') : Calls P f args w fun x w' => x = .returned v' ∧ R w' := e ▸ h
set_option maxRecDepth 100000 in
set_option maxHeartbeats 4000000 in
theorem walk_CoordParses (m : Int) (W : World) (hm : MaxAt m W) (v0 : Value) (a0 : Arg Tryd.prog W 9 v0) : Calls Tryd.prog 9 #[v0] W fun e W' => e = .returned (.bool true) ∧ Below W.heap.size W W' := by
  obtain ⟨s, rfl⟩ := arg_string a0
  clear a0
  have H0 := Lib.hid (fun w => cut_any s w)
  have hs := cutS_size s
  generalize cutS s = t at H0 hs
  have HP := Lib.hid (fun w => Pieces_any t w (by omega))
  have XG := Lib.hid (fun w (h : MaxAt m w) => ParseGav_any t m w (by omega) h)
  have XK := Lib.hid (fun w (h : MaxAt m w) => ParseKey_any t m w (by omega) h)
  have Hsz := Lib.hid (fun p (h : p ∈ pcs t) => Nat.le_trans (pcs_size h) hs)
  have HL := Lib.hid (fun w (hm : MaxAt m w) => lives_any m w hm)
  have HM := Lib.hid hm
  clear hm
  go_enter Tryd.func9, Tryd.ntmps9
  go_wp2_with (first
    | (go_at_call 29; with_reducible refine (H0.out _).mono ?_; rintro e w1 ⟨rfl, rfl⟩))
  refine (HP.out _).mono ?_
  rintro e1 w1 ⟨g0, cap, rfl, hg0, hg1, hcells, hb1⟩
  generalize pcs t = L at XG XK Hsz hcells ⊢
  have HCl := Lib.hid hcells
  clear hcells
  rcases L with _ | ⟨a, _ | ⟨b, _ | ⟨c, _ | ⟨d, _ | ⟨f, L⟩⟩⟩⟩⟩
  case cons.cons.cons.nil =>
    have p0 : w1.cell? ⟨g0, 0, none⟩ = some (.string a) := HCl.out 0 (by simp)
    have p1 : w1.cell? ⟨g0, 1, none⟩ = some (.string b) := HCl.out 1 (by simp)
    have p2 : w1.cell? ⟨g0, 2, none⟩ = some (.string c) := HCl.out 2 (by simp)
    have ha := Hsz.out a (by simp)
    have hb' := Hsz.out b (by simp)
    have hc' := Hsz.out c (by simp)
    have MG := Lib.hid (fun w => refMayGav_any a b c w (by omega) (by omega) (by omega))
    have MK := Lib.hid (fun w => refMayKey_any a b c ⟨#[]⟩ w (by omega) (by omega) (by omega) (by decide))
    have eg : gavV (parseG [a, b, c]) = gavV (if mayG a b c = true then some (a, b, c) else none) := rfl
    have ek : keyV (parseK [a, b, c]) = keyV (if mayK a b c ⟨#[]⟩ = true then some (a, b, c, ⟨#[]⟩) else none) := rfl
    rw [eg] at XG
    rw [ek] at XK
    clear ha hb' hc' eg ek Hsz HCl
    generalize mayG a b c = xg at XG MG
    generalize mayK a b c ⟨#[]⟩ = xk at XK MK
    obtain ⟨g1, g2, g3, gn, hG, eG⟩ := gav_two a b c xg
    obtain ⟨k1, k2, k3, k4, kn, hK, eK⟩ := key_two a b c ⟨#[]⟩ xk
    rw [eG] at XG
    rw [eK] at XK
    clear eG eK
    rcases hG with ⟨rfl, rfl, rfl, rfl, rfl⟩ | ⟨rfl, rfl, rfl, rfl, rfl⟩
    all_goals
      rcases hK with ⟨rfl, rfl, rfl, rfl, rfl, rfl⟩ | ⟨rfl, rfl, rfl, rfl, rfl, rfl⟩
      all_goals
        obtain ⟨hc1, -⟩ := bcell hb1
        have HM1 := Lib.hid (HM.out.up hb1)
        have HB1 := Lib.hid hb1
        have z1 := hb1.size
        clear hb1
        go_wp2_with fail
        refine (XG.out _ HM1.out).mono ?_
        rintro e2 w2 ⟨rfl, hb⟩
        obtain ⟨hc2, -⟩ := bcell hb
        have HM2 := Lib.hid (fun o p => ((HM1.out.up hb).up (below_alloc w2 o)).up (below_alloc (w2.alloc o) p))
        have HB2 := Lib.hid (fun o p => ((HB1.out.trans (hb.mono HB1.out.size)).alloc (Nat.le_trans HB1.out.size hb.size) o).alloc (Nat.le_trans (Nat.le_trans HB1.out.size hb.size) (by simp)) p)
        have HM2d := Lib.hid (fun o p => show MaxAt m ((w2.alloc o).alloc p).drew from HM2.out o p)
        have HB2d := Lib.hid (fun o p => (HB2.out o p).drew)
        have KB2 := Lib.hid (fun o p => (((hb.mono (by omega : g0 + 1 ≤ w1.heap.size)).alloc (by have := hb.size; omega) o).alloc (by have := hb.size; simp; omega) p))
        have KB2d := Lib.hid (fun o p => (KB2.out o p).drew)
        have z2 := hb.size
        have q2 : g0 < w2.heap.size := by omega
        clear hb
        go_wp2_with fail
        go_region
        go_wp2_with fail
        refine (MG.out _).mono ?_
        rintro e3 w3 ⟨rfl, hb⟩
        obtain ⟨hc3, -⟩ := bcell hb
        have HM3 : Hid (MaxAt m w3) := by first | exact Lib.hid ((HM2.out _ _).up hb) | exact Lib.hid ((HM2d.out _ _).up hb)
        have HB3 : Hid (Below W.heap.size W w3) := by first | exact Lib.hid ((HB2.out _ _).trans (hb.mono (HB2.out _ _).size)) | exact Lib.hid ((HB2d.out _ _).trans (hb.mono (HB2d.out _ _).size))
        have z3 : w2.heap.size + 1 + 1 ≤ w3.heap.size := by simpa using hb.size
        have KB3 : Hid (Below (g0 + 1) w1 w3) := by first | exact Lib.hid ((KB2.out _ _).trans (hb.mono (by simp; omega))) | exact Lib.hid ((KB2d.out _ _).trans (hb.mono (by simp; omega)))
        have n3 : w2.heap.size < w3.heap.size := by omega
        have o3 : w2.heap.size + 1 < w3.heap.size := by omega
        have q3 : g0 < w3.heap.size := by omega
        clear hb
        go_wp2_with fail
        refine (XK.out _ HM3.out).mono ?_
        rintro e4 w4 ⟨rfl, hb⟩
        obtain ⟨hc4, -⟩ := bcell hb
        have HM4 := Lib.hid (fun o p => ((HM3.out.up hb).up (below_alloc w4 o)).up (below_alloc (w4.alloc o) p))
        have HB4 := Lib.hid (fun o p => ((HB3.out.trans (hb.mono HB3.out.size)).alloc (Nat.le_trans HB3.out.size hb.size) o).alloc (Nat.le_trans (Nat.le_trans HB3.out.size hb.size) (by simp)) p)
        have HM4d := Lib.hid (fun o p => show MaxAt m ((w4.alloc o).alloc p).drew from HM4.out o p)
        have HB4d := Lib.hid (fun o p => (HB4.out o p).drew)
        have z4 := hb.size
        have KB4 := Lib.hid (KB3.out.trans (hb.mono (by omega)))
        have r0 := (KB3.out.cell (p := ⟨g0, 0, none⟩) (Nat.lt_succ_self g0)).trans p0
        have r1 := (KB3.out.cell (p := ⟨g0, 1, none⟩) (Nat.lt_succ_self g0)).trans p1
        have r2 := (KB3.out.cell (p := ⟨g0, 2, none⟩) (Nat.lt_succ_self g0)).trans p2
        have n4 : w2.heap.size < w4.heap.size := by omega
        have o4 : w2.heap.size + 1 < w4.heap.size := by omega
        have q4 : g0 < w4.heap.size := by omega
        clear hb
        go_wp2_with fail
        go_region
        go_wp2_with fail
        refine (MK.out _).mono ?_
        rintro e5 w5 ⟨rfl, hb⟩
        obtain ⟨hc5, -⟩ := bcell hb
        have HM5 : Hid (MaxAt m w5) := by first | exact Lib.hid ((HM4.out _ _).up hb) | exact Lib.hid ((HM4d.out _ _).up hb)
        have HB5 : Hid (Below W.heap.size W w5) := by first | exact Lib.hid ((HB4.out _ _).trans (hb.mono (HB4.out _ _).size)) | exact Lib.hid ((HB4d.out _ _).trans (hb.mono (HB4d.out _ _).size))
        have z5 : w4.heap.size + 1 + 1 ≤ w5.heap.size := by simpa using hb.size
        have n5 : w4.heap.size < w5.heap.size := by omega
        have o5 : w4.heap.size + 1 < w5.heap.size := by omega
        clear hb
        go_wp2_with fail
        refine (HL.out _ HM5.out).mono ?_
        rintro e6 w6 ⟨rfl, hb⟩
        have HB6 := Lib.hid (HB5.out.trans (hb.mono HB5.out.size))
        clear hb
        go_wp2
        go_ret
        exact ⟨rfl, HB6.out⟩
  case cons.cons.cons.cons.nil =>
    have p0 : w1.cell? ⟨g0, 0, none⟩ = some (.string a) := HCl.out 0 (by simp)
    have p1 : w1.cell? ⟨g0, 1, none⟩ = some (.string b) := HCl.out 1 (by simp)
    have p2 : w1.cell? ⟨g0, 2, none⟩ = some (.string c) := HCl.out 2 (by simp)
    have p3 : w1.cell? ⟨g0, 3, none⟩ = some (.string d) := HCl.out 3 (by simp)
    have ha := Hsz.out a (by simp)
    have hb' := Hsz.out b (by simp)
    have hc' := Hsz.out c (by simp)
    have hd' := Hsz.out d (by simp)
    have MG := Lib.hid (fun w => refMayGav_any ⟨#[]⟩ ⟨#[]⟩ ⟨#[]⟩ w (by decide) (by decide) (by decide))
    rw [mayG_no] at MG
    rw [show gavV (parseG [a, b, c, d]) = .tuple #[zG, .int .i64 1] from rfl] at XG
    have he : (d.toList == []) = emptyB d := rfl
    have hne : (d.toList != []) = !emptyB d := rfl
    cases hx : emptyB d with
    | true =>
      have MK := Lib.hid (fun w => refMayKey_any ⟨#[]⟩ ⟨#[]⟩ ⟨#[]⟩ ⟨#[]⟩ w (by decide) (by decide) (by decide) (by decide))
      rw [mayK_no] at MK
      rw [show keyV (parseK [a, b, c, d]) = .tuple #[zK, .int .i64 1] by
        show keyV (if mayK a b c d = true ∧ emptyB d = false then some (a, b, c, d) else none) = _
        rw [if_neg (by rw [hx]; simp)]; rfl] at XK
      rw [hx] at he hne
      clear ha hb' hc' hd' Hsz HCl hx
      obtain ⟨hc1, -⟩ := bcell hb1
      have HM1 := Lib.hid (HM.out.up hb1)
      have HB1 := Lib.hid hb1
      have z1 := hb1.size
      clear hb1
      go_wp2_with fail
      refine (XG.out _ HM1.out).mono ?_
      rintro e2 w2 ⟨rfl, hb⟩
      obtain ⟨hc2, -⟩ := bcell hb
      have HM2 := Lib.hid (fun o p => ((HM1.out.up hb).up (below_alloc w2 o)).up (below_alloc (w2.alloc o) p))
      have HB2 := Lib.hid (fun o p => ((HB1.out.trans (hb.mono HB1.out.size)).alloc (Nat.le_trans HB1.out.size hb.size) o).alloc (Nat.le_trans (Nat.le_trans HB1.out.size hb.size) (by simp)) p)
      have HM2d := Lib.hid (fun o p => show MaxAt m ((w2.alloc o).alloc p).drew from HM2.out o p)
      have HB2d := Lib.hid (fun o p => (HB2.out o p).drew)
      have KB2 := Lib.hid (fun o p => (((hb.mono (by omega : g0 + 1 ≤ w1.heap.size)).alloc (by have := hb.size; omega) o).alloc (by have := hb.size; simp; omega) p))
      have KB2d := Lib.hid (fun o p => (KB2.out o p).drew)
      have z2 := hb.size
      have q2 : g0 < w2.heap.size := by omega
      clear hb
      go_wp2_with fail
      refine (MG.out _).mono ?_
      rintro e3 w3 ⟨rfl, hb⟩
      obtain ⟨hc3, -⟩ := bcell hb
      have HM3 : Hid (MaxAt m w3) := by first | exact Lib.hid ((HM2.out _ _).up hb) | exact Lib.hid ((HM2d.out _ _).up hb)
      have HB3 : Hid (Below W.heap.size W w3) := by first | exact Lib.hid ((HB2.out _ _).trans (hb.mono (HB2.out _ _).size)) | exact Lib.hid ((HB2d.out _ _).trans (hb.mono (HB2d.out _ _).size))
      have z3 : w2.heap.size + 1 + 1 ≤ w3.heap.size := by simpa using hb.size
      have KB3 : Hid (Below (g0 + 1) w1 w3) := by first | exact Lib.hid ((KB2.out _ _).trans (hb.mono (by simp; omega))) | exact Lib.hid ((KB2d.out _ _).trans (hb.mono (by simp; omega)))
      have n3 : w2.heap.size < w3.heap.size := by omega
      have o3 : w2.heap.size + 1 < w3.heap.size := by omega
      have q3 : g0 < w3.heap.size := by omega
      clear hb
      go_wp2_with fail
      refine (XK.out _ HM3.out).mono ?_
      rintro e4 w4 ⟨rfl, hb⟩
      obtain ⟨hc4, -⟩ := bcell hb
      have HM4 := Lib.hid (fun o p => ((HM3.out.up hb).up (below_alloc w4 o)).up (below_alloc (w4.alloc o) p))
      have HB4 := Lib.hid (fun o p => ((HB3.out.trans (hb.mono HB3.out.size)).alloc (Nat.le_trans HB3.out.size hb.size) o).alloc (Nat.le_trans (Nat.le_trans HB3.out.size hb.size) (by simp)) p)
      have HM4d := Lib.hid (fun o p => show MaxAt m ((w4.alloc o).alloc p).drew from HM4.out o p)
      have HB4d := Lib.hid (fun o p => (HB4.out o p).drew)
      have z4 := hb.size
      have KB4 := Lib.hid (KB3.out.trans (hb.mono (by omega)))
      have r0 := (KB3.out.cell (p := ⟨g0, 0, none⟩) (Nat.lt_succ_self g0)).trans p0
      have r1 := (KB3.out.cell (p := ⟨g0, 1, none⟩) (Nat.lt_succ_self g0)).trans p1
      have r2 := (KB3.out.cell (p := ⟨g0, 2, none⟩) (Nat.lt_succ_self g0)).trans p2
      have r3 := (KB3.out.cell (p := ⟨g0, 3, none⟩) (Nat.lt_succ_self g0)).trans p3
      have n4 : w2.heap.size < w4.heap.size := by omega
      have o4 : w2.heap.size + 1 < w4.heap.size := by omega
      have q4 : g0 < w4.heap.size := by omega
      clear hb
      go_wp2_with fail
      refine (MK.out _).mono ?_
      rintro e5 w5 ⟨rfl, hb⟩
      obtain ⟨hc5, -⟩ := bcell hb
      have HM5 : Hid (MaxAt m w5) := by first | exact Lib.hid ((HM4.out _ _).up hb) | exact Lib.hid ((HM4d.out _ _).up hb)
      have HB5 : Hid (Below W.heap.size W w5) := by first | exact Lib.hid ((HB4.out _ _).trans (hb.mono (HB4.out _ _).size)) | exact Lib.hid ((HB4d.out _ _).trans (hb.mono (HB4d.out _ _).size))
      have z5 : w4.heap.size + 1 + 1 ≤ w5.heap.size := by simpa using hb.size
      have n5 : w4.heap.size < w5.heap.size := by omega
      have o5 : w4.heap.size + 1 < w5.heap.size := by omega
      clear hb
      go_wp2_with fail
      refine (HL.out _ HM5.out).mono ?_
      rintro e6 w6 ⟨rfl, hb⟩
      have HB6 := Lib.hid (HB5.out.trans (hb.mono HB5.out.size))
      clear hb
      go_wp2
      go_ret
      exact ⟨rfl, HB6.out⟩
    | false =>
      have MK := Lib.hid (fun w => refMayKey_any a b c d w (by omega) (by omega) (by omega) (by omega))
      rw [show keyV (parseK [a, b, c, d]) = keyV (if mayK a b c d = true then some (a, b, c, d) else none) by
        show keyV (if mayK a b c d = true ∧ emptyB d = false then some (a, b, c, d) else none) = _
        cases mayK a b c d <;> simp [hx]] at XK
      rw [hx] at he hne
      clear ha hb' hc' hd' Hsz HCl hx
      generalize mayK a b c d = xk at XK MK
      obtain ⟨k1, k2, k3, k4, kn, hK, eK⟩ := key_two a b c d xk
      rw [eK] at XK
      clear eK
      rcases hK with ⟨rfl, rfl, rfl, rfl, rfl, rfl⟩ | ⟨rfl, rfl, rfl, rfl, rfl, rfl⟩
      all_goals
        obtain ⟨hc1, -⟩ := bcell hb1
        have HM1 := Lib.hid (HM.out.up hb1)
        have HB1 := Lib.hid hb1
        have z1 := hb1.size
        clear hb1
        go_wp2_with fail
        refine (XG.out _ HM1.out).mono ?_
        rintro e2 w2 ⟨rfl, hb⟩
        obtain ⟨hc2, -⟩ := bcell hb
        have HM2 := Lib.hid (fun o p => ((HM1.out.up hb).up (below_alloc w2 o)).up (below_alloc (w2.alloc o) p))
        have HB2 := Lib.hid (fun o p => ((HB1.out.trans (hb.mono HB1.out.size)).alloc (Nat.le_trans HB1.out.size hb.size) o).alloc (Nat.le_trans (Nat.le_trans HB1.out.size hb.size) (by simp)) p)
        have HM2d := Lib.hid (fun o p => show MaxAt m ((w2.alloc o).alloc p).drew from HM2.out o p)
        have HB2d := Lib.hid (fun o p => (HB2.out o p).drew)
        have KB2 := Lib.hid (fun o p => (((hb.mono (by omega : g0 + 1 ≤ w1.heap.size)).alloc (by have := hb.size; omega) o).alloc (by have := hb.size; simp; omega) p))
        have KB2d := Lib.hid (fun o p => (KB2.out o p).drew)
        have z2 := hb.size
        have q2 : g0 < w2.heap.size := by omega
        clear hb
        go_wp2_with fail
        refine (MG.out _).mono ?_
        rintro e3 w3 ⟨rfl, hb⟩
        obtain ⟨hc3, -⟩ := bcell hb
        have HM3 : Hid (MaxAt m w3) := by first | exact Lib.hid ((HM2.out _ _).up hb) | exact Lib.hid ((HM2d.out _ _).up hb)
        have HB3 : Hid (Below W.heap.size W w3) := by first | exact Lib.hid ((HB2.out _ _).trans (hb.mono (HB2.out _ _).size)) | exact Lib.hid ((HB2d.out _ _).trans (hb.mono (HB2d.out _ _).size))
        have z3 : w2.heap.size + 1 + 1 ≤ w3.heap.size := by simpa using hb.size
        have KB3 : Hid (Below (g0 + 1) w1 w3) := by first | exact Lib.hid ((KB2.out _ _).trans (hb.mono (by simp; omega))) | exact Lib.hid ((KB2d.out _ _).trans (hb.mono (by simp; omega)))
        have n3 : w2.heap.size < w3.heap.size := by omega
        have o3 : w2.heap.size + 1 < w3.heap.size := by omega
        have q3 : g0 < w3.heap.size := by omega
        clear hb
        go_wp2_with fail
        refine (XK.out _ HM3.out).mono ?_
        rintro e4 w4 ⟨rfl, hb⟩
        obtain ⟨hc4, -⟩ := bcell hb
        have HM4 := Lib.hid (fun o p => ((HM3.out.up hb).up (below_alloc w4 o)).up (below_alloc (w4.alloc o) p))
        have HB4 := Lib.hid (fun o p => ((HB3.out.trans (hb.mono HB3.out.size)).alloc (Nat.le_trans HB3.out.size hb.size) o).alloc (Nat.le_trans (Nat.le_trans HB3.out.size hb.size) (by simp)) p)
        have HM4d := Lib.hid (fun o p => show MaxAt m ((w4.alloc o).alloc p).drew from HM4.out o p)
        have HB4d := Lib.hid (fun o p => (HB4.out o p).drew)
        have z4 := hb.size
        have KB4 := Lib.hid (KB3.out.trans (hb.mono (by omega)))
        have r0 := (KB3.out.cell (p := ⟨g0, 0, none⟩) (Nat.lt_succ_self g0)).trans p0
        have r1 := (KB3.out.cell (p := ⟨g0, 1, none⟩) (Nat.lt_succ_self g0)).trans p1
        have r2 := (KB3.out.cell (p := ⟨g0, 2, none⟩) (Nat.lt_succ_self g0)).trans p2
        have r3 := (KB3.out.cell (p := ⟨g0, 3, none⟩) (Nat.lt_succ_self g0)).trans p3
        have n4 : w2.heap.size < w4.heap.size := by omega
        have o4 : w2.heap.size + 1 < w4.heap.size := by omega
        have q4 : g0 < w4.heap.size := by omega
        clear hb
        go_wp2_with fail
        go_region
        go_wp2_with fail
        refine (MK.out _).mono ?_
        rintro e5 w5 ⟨rfl, hb⟩
        obtain ⟨hc5, -⟩ := bcell hb
        have HM5 : Hid (MaxAt m w5) := by first | exact Lib.hid ((HM4.out _ _).up hb) | exact Lib.hid ((HM4d.out _ _).up hb)
        have HB5 : Hid (Below W.heap.size W w5) := by first | exact Lib.hid ((HB4.out _ _).trans (hb.mono (HB4.out _ _).size)) | exact Lib.hid ((HB4d.out _ _).trans (hb.mono (HB4d.out _ _).size))
        have z5 : w4.heap.size + 1 + 1 ≤ w5.heap.size := by simpa using hb.size
        have n5 : w4.heap.size < w5.heap.size := by omega
        have o5 : w4.heap.size + 1 < w5.heap.size := by omega
        clear hb
        go_wp2_with fail
        refine (HL.out _ HM5.out).mono ?_
        rintro e6 w6 ⟨rfl, hb⟩
        have HB6 := Lib.hid (HB5.out.trans (hb.mono HB5.out.size))
        clear hb
        go_wp2
        go_ret
        exact ⟨rfl, HB6.out⟩
  all_goals
    have MG := Lib.hid (fun w => refMayGav_any ⟨#[]⟩ ⟨#[]⟩ ⟨#[]⟩ w (by decide) (by decide) (by decide))
    rw [mayG_no] at MG
    have MK := Lib.hid (fun w => refMayKey_any ⟨#[]⟩ ⟨#[]⟩ ⟨#[]⟩ ⟨#[]⟩ w (by decide) (by decide) (by decide) (by decide))
    rw [mayK_no] at MK
    have XG := Lib.hid (show ∀ w, MaxAt m w → Calls Tryd.prog 34 #[.string t] w fun e w' => e = .returned (.tuple #[zG, .int .i64 1]) ∧ Below w.heap.size w w' from XG.out)
    have XK := Lib.hid (show ∀ w, MaxAt m w → Calls Tryd.prog 35 #[.string t] w fun e w' => e = .returned (.tuple #[zK, .int .i64 1]) ∧ Below w.heap.size w w' from XK.out)
    clear Hsz HCl
    try have e3 : (((f :: L).length + 4 : Nat) : Int) ≠ 3 := by omega
    generalize hn : List.length _ = n
    have h3 : (((n : Nat) : Int) == 3) = false := by rw [← hn]; first | rfl | (rw [beq_eq_false_iff_ne]; simp; omega)
    have h4 : (((n : Nat) : Int) == 4) = false := by rw [← hn]; first | rfl | (rw [beq_eq_false_iff_ne]; simp; omega)
    clear hn
    obtain ⟨hc1, -⟩ := bcell hb1
    have HM1 := Lib.hid (HM.out.up hb1)
    have HB1 := Lib.hid hb1
    have z1 := hb1.size
    clear hb1
    go_wp2_with fail
    refine (XG.out _ HM1.out).mono ?_
    rintro e2 w2 ⟨rfl, hb⟩
    obtain ⟨hc2, -⟩ := bcell hb
    have HM2 := Lib.hid (fun o p => ((HM1.out.up hb).up (below_alloc w2 o)).up (below_alloc (w2.alloc o) p))
    have HB2 := Lib.hid (fun o p => ((HB1.out.trans (hb.mono HB1.out.size)).alloc (Nat.le_trans HB1.out.size hb.size) o).alloc (Nat.le_trans (Nat.le_trans HB1.out.size hb.size) (by simp)) p)
    have HM2d := Lib.hid (fun o p => show MaxAt m ((w2.alloc o).alloc p).drew from HM2.out o p)
    have HB2d := Lib.hid (fun o p => (HB2.out o p).drew)
    have KB2 := Lib.hid (fun o p => (((hb.mono (by omega : g0 + 1 ≤ w1.heap.size)).alloc (by have := hb.size; omega) o).alloc (by have := hb.size; simp; omega) p))
    have KB2d := Lib.hid (fun o p => (KB2.out o p).drew)
    have z2 := hb.size
    have q2 : g0 < w2.heap.size := by omega
    clear hb
    go_wp2_with fail
    refine (MG.out _).mono ?_
    rintro e3 w3 ⟨rfl, hb⟩
    obtain ⟨hc3, -⟩ := bcell hb
    have HM3 : Hid (MaxAt m w3) := by first | exact Lib.hid ((HM2.out _ _).up hb) | exact Lib.hid ((HM2d.out _ _).up hb)
    have HB3 : Hid (Below W.heap.size W w3) := by first | exact Lib.hid ((HB2.out _ _).trans (hb.mono (HB2.out _ _).size)) | exact Lib.hid ((HB2d.out _ _).trans (hb.mono (HB2d.out _ _).size))
    have z3 : w2.heap.size + 1 + 1 ≤ w3.heap.size := by simpa using hb.size
    have KB3 : Hid (Below (g0 + 1) w1 w3) := by first | exact Lib.hid ((KB2.out _ _).trans (hb.mono (by simp; omega))) | exact Lib.hid ((KB2d.out _ _).trans (hb.mono (by simp; omega)))
    have n3 : w2.heap.size < w3.heap.size := by omega
    have o3 : w2.heap.size + 1 < w3.heap.size := by omega
    have q3 : g0 < w3.heap.size := by omega
    clear hb
    go_wp2_with fail
    refine (XK.out _ HM3.out).mono ?_
    rintro e4 w4 ⟨rfl, hb⟩
    obtain ⟨hc4, -⟩ := bcell hb
    have HM4 := Lib.hid (fun o p => ((HM3.out.up hb).up (below_alloc w4 o)).up (below_alloc (w4.alloc o) p))
    have HB4 := Lib.hid (fun o p => ((HB3.out.trans (hb.mono HB3.out.size)).alloc (Nat.le_trans HB3.out.size hb.size) o).alloc (Nat.le_trans (Nat.le_trans HB3.out.size hb.size) (by simp)) p)
    have HM4d := Lib.hid (fun o p => show MaxAt m ((w4.alloc o).alloc p).drew from HM4.out o p)
    have HB4d := Lib.hid (fun o p => (HB4.out o p).drew)
    have z4 := hb.size
    have KB4 := Lib.hid (KB3.out.trans (hb.mono (by omega)))
    skip
    have n4 : w2.heap.size < w4.heap.size := by omega
    have o4 : w2.heap.size + 1 < w4.heap.size := by omega
    have q4 : g0 < w4.heap.size := by omega
    clear hb
    go_wp2_with fail
    refine (MK.out _).mono ?_
    rintro e5 w5 ⟨rfl, hb⟩
    obtain ⟨hc5, -⟩ := bcell hb
    have HM5 : Hid (MaxAt m w5) := by first | exact Lib.hid ((HM4.out _ _).up hb) | exact Lib.hid ((HM4d.out _ _).up hb)
    have HB5 : Hid (Below W.heap.size W w5) := by first | exact Lib.hid ((HB4.out _ _).trans (hb.mono (HB4.out _ _).size)) | exact Lib.hid ((HB4d.out _ _).trans (hb.mono (HB4d.out _ _).size))
    have z5 : w4.heap.size + 1 + 1 ≤ w5.heap.size := by simpa using hb.size
    have n5 : w4.heap.size < w5.heap.size := by omega
    have o5 : w4.heap.size + 1 < w5.heap.size := by omega
    clear hb
    go_wp2_with fail
    refine (HL.out _ HM5.out).mono ?_
    rintro e6 w6 ⟨rfl, hb⟩
    have HB6 := Lib.hid (HB5.out.trans (hb.mono HB5.out.size))
    clear hb
    go_wp2
    go_ret
    exact ⟨rfl, HB6.out⟩
end Go.Proofs.YtldhgdoeehnbjaaDoor
