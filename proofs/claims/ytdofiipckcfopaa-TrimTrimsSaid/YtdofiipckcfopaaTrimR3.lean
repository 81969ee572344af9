/- What the reference's fix computes. -/
import Derived.Test.YtdofiipckcfopaaTrimR2
namespace Go.Proofs.Ytdofiipckcfopaa
open Go.RowKit

def RPost (g : Nat) (w : World) (v : Value) (s : TrS) (e : Ending) (w' : World) : Prop := e = .returned v ∧ Rk w' g s ∧ Below g w w'
theorem filter_take_in {l : List Int} {q : Nat} {n : Int} (h : q < l.length) (hx : l[q] ≠ n) : (l.take (q + 1)).filter (fun x => !(x == n)) = (l.take q).filter (fun x => !(x == n)) ++ [l[q]] := by
  rw [List.take_succ_eq_append_getElem h, List.filter_append, List.filter_cons, List.filter_nil, if_pos (by simp [hx])]
theorem filter_take_out {l : List Int} {q : Nat} {n : Int} (h : q < l.length) (hx : l[q] = n) : (l.take (q + 1)).filter (fun x => !(x == n)) = (l.take q).filter (fun x => !(x == n)) := by
  rw [List.take_succ_eq_append_getElem h, List.filter_append, List.filter_cons, List.filter_nil, if_neg (by simp [hx]), List.append_nil]
theorem filter_take_le (l : List Int) (q : Nat) (p : Int → Bool) : ((l.take q).filter p).length ≤ q := Nat.le_trans (List.length_filter_le _ _) (List.length_take_le _ _)
set_option maxRecDepth 100000 in
set_option maxHeartbeats 4000000 in
theorem rfix_any (vars g : Nat) (s : TrS) (n : Int) (w : World) (hw : Rk w g s) (hok : clsOk vars s.C) (hn1 : -1024 ≤ n) (hn2 : n ≤ 1024) (hcl : s.C.length ≤ 1000000) (hfl : s.F.length ≤ 1000000) :
    Calls Try.prog 31 #[.pointer (some ⟨g, 0, none⟩), .int .i64 n] w (RPost g w (.tuple #[]) (fixS s n)) := by
  obtain ⟨vC, vF, vU, h⟩ := hw
  obtain ⟨hc0, hc1, _, _⟩ := h.cell
  have hfz1 := h.frozen 1
  have hgl := h.lt
  obtain ⟨AF, kF, rfl⟩ := own_shape h.oF
  obtain ⟨A, c, rfl, hm, hat⟩ := h.reads.open_
  have H := Lib.hid h
  clear h hat
  go_enter Try.func31, Try.ntmps31
  have HK := Lib.hid (H.out.keep (below_alloc w (.cells #[.int .i64 n] 3)))
  go_wp2_with (at_builtin
               go_must (refine wpList_push rfl _ _ _ rfl eInt (v := .slice AF s.F.length kF) rfl HK.out.oF w.heap.size (.int .i64 n) rfl (by simp [go_sem]) rfl (by omega) (by simp; omega) ?_)
               intro v1 w5 ho1 hg1 hat1
               have hb5 := HK.out.midg hg1 (fun e => by have := (HK.out.ltF.1 g e).1; omega)
               have hd1 : w5.cell? ⟨g, 1, none⟩ = some (.slice AF s.F.length kF) := (by rw [cell_of_row _ _ 1 _ _ _ hb5]; rfl)
               have hdf : w5.frozen? ⟨g, 1, none⟩ = false := frozen_of_row w5 g 1 _ _ hb5
               have hd0 : w5.cell? ⟨g, 0, none⟩ = some (.slice A s.C.length c) := (by rw [cell_of_row _ _ 0 _ _ _ hb5]; rfl)
               have HP := Lib.hid (HK.out.pushF ho1 hg1 hat1)
               have Hbx := Lib.hid ((((below_alloc w (.cells #[.int .i64 n] 3)).mono (Nat.le_of_lt hgl)).grown hg1 (by simp; omega) (fun i hi => by have := (HK.out.ltF.1 i hi).1; omega)).setCell (p := ⟨g, 1, none⟩) (Nat.le_refl _) v1)
               obtain ⟨A1, k1, rfl⟩ := own_shape ho1
               clear hb5 ho1 hg1 hat1)
  generalize w5.setCell ⟨g, 1, none⟩ (.slice A1 (s.F.length + 1) k1) = wx at *
  obtain ⟨A', c', e', _, hat⟩ := HP.out.reads.open_
  simp only [Value.slice.injEq] at e'
  obtain ⟨rfl, _, rfl⟩ := e'
  have Hat := Lib.hid hat
  clear hat hd0 hd1 hdf hfz1 hc0 hc1
  go_loopw [25, 4] (fun sv lv wr => ∃ k : Nat, k ≤ s.C.length ∧ sv = .int .i64 k ∧ Below wx.heap.size wx wr ∧ ∃ xs, wr.ownsRow wx.heap.size 27 1 lv (fixC (s.C.take k) n).length xs ∧
      ∀ i (h : i < (fixC (s.C.take k) n).length) u, xs[i]? = some u → RInts wr (fun b => wx.heap.size ≤ b ∧ b < wr.heap.size ∧ some b ≠ lv.ownBlock) u (fixC (s.C.take k) n)[i]) (fun sv _ _ => s.C.length - (intOf sv).toNat)
  case atStart => exact ⟨0, Nat.zero_le _, rfl, Below.refl _ _, [], by simpa [fixC] using World.ownsRow_nil _ _ _ _, fun i hi => by simp [fixC] at hi⟩
  case round =>
    obtain ⟨wo, rfl⟩ : ∃ w0 : World, w0 = wr := ⟨_, rfl⟩
    obtain ⟨k, hkle, rfl, hbel, xs, hown, hcl'⟩ := hrel
    have Hbel := Lib.hid hbel
    have Hown := Lib.hid hown
    have Hcl := Lib.hid hcl'
    obtain ⟨AL, kL, rfl⟩ := own_shape hown
    clear hbel hown hcl'
    by_cases hklt : k < s.C.length
    · obtain ⟨bk, offk, uk, rfl, hbk, hcellk, huk⟩ := Hat.out.lt_ hklt
      have hck := (Hbel.out.cell (p := ⟨bk, offk + k, none⟩) hbk).trans hcellk
      have Huk := Lib.hid (RInts.stable.up huk Hbel.out)
      obtain ⟨A2, c2, rfl, hm2, hat2⟩ := Huk.out.open_
      have Hat2 := Lib.hid hat2
      have hlen2 := (hok _ (List.getElem_mem hklt)).1
      clear hat2 huk hcellk
      cases hx : hasB s.C[k] n with
      | true =>
        have Hs' := Lib.hid (fixC_take_in hklt hx)
        have Hx := Lib.hid hx; clear hx
        go_wp2_with (go_at_call 29; refine (rhas_any _ _ s.C[k] _ Huk.out).mono ?_; rintro e w1 ⟨rfl, rfl⟩; rw [Hx.out])
        go_roundw
        case rel => exact ⟨k + 1, by omega, by go_num, Hbel.out, xs, by rw [Hs'.out]; exact Hown.out, by rw [Hs'.out]; exact Hcl.out⟩
        case measure => simp [intOf]; omega
      | false =>
        have Hs' := Lib.hid (fixC_take_out hklt hx)
        have Hx := Lib.hid hx; clear hx
        have hll := fixC_len (s.C.take k) n
        have hll2 : (s.C.take k).length ≤ k := List.length_take_le _ _
        go_wp2_with (go_at_call 29; refine (rhas_any _ _ s.C[k] _ Huk.out).mono ?_; rintro e w1 ⟨rfl, rfl⟩; rw [Hx.out])
        go_loopw [34, 7] (fun sv dv wq => ∃ q : Nat, q ≤ s.C[k].length ∧ sv = .int .i64 q ∧ Below wo.heap.size wo wq ∧ wq.ownsRow wo.heap.size 3 1 dv ((s.C[k].take q).filter fun x => !(x == -n)).length (((s.C[k].take q).filter fun x => !(x == -n)).map (Value.int .i64))) (fun sv _ _ => s.C[k].length - (intOf sv).toNat)
        case atStart => exact ⟨0, Nat.zero_le _, rfl, Below.refl _ _, by simpa using World.ownsRow_nil _ _ _ _⟩
        case round =>
          obtain ⟨wq, rfl⟩ : ∃ w0 : World, w0 = wr := ⟨_, rfl⟩
          obtain ⟨q, hqle, rfl, hbq, hoq⟩ := hrel
          have Hbq := Lib.hid hbq
          have Hoq := Lib.hid hoq
          obtain ⟨Ad, kd, rfl⟩ := own_shape hoq
          clear hbq hoq
          by_cases hqlt : q < s.C[k].length
          · obtain ⟨bq, offq, uq, rfl, hbq2, hcellq, huq⟩ := Hat2.out.lt_ hqlt
            obtain rfl := huq
            have hcq := (Hbq.out.cell (p := ⟨bq, offq + q, none⟩) hbq2).trans hcellq
            clear hcellq
            by_cases hqn : s.C[k][q] = -n
            · have Hs2 := Lib.hid (filter_take_out hqlt hqn)
              have hqn' : (s.C[k][q] != -n) = false := by simp [hqn]
              clear hqn
              go_wp2
              go_roundw
              case rel => exact ⟨q + 1, by omega, by go_num, Hbq.out, by rw [Hs2.out]; exact Hoq.out⟩
              case measure => simp [intOf]; omega
            · have Hs2 := Lib.hid (filter_take_in hqlt hqn)
              have hqn' : (s.C[k][q] != -n) = true := by simp [hqn]
              have hle := filter_take_le s.C[k] q fun x => !(x == -n)
              clear hqn
              go_wp2_with (at_builtin
                           go_must (refine wpList_push rfl _ _ _ rfl eInt (v := .slice Ad ((s.C[k].take q).filter fun x => !(x == -n)).length kd) rfl (Hoq.out.alloc _) wq.heap.size (.int .i64 s.C[k][q]) rfl (by simp [go_sem]) rfl (by omega) (by have := Hbq.out.size; simp; omega) ?_)
                           intro v6 w6 ho6 hg6 hat6)
              go_roundw
              case rel =>
                refine ⟨q + 1, by omega, by go_num, (Hbq.out.alloc Hbq.out.size _).grown hg6 (by have := Hbq.out.size; simp; omega) (fun i hi => (Hoq.out.lt i hi).1), ?_⟩
                rw [Hs2.out, List.map_append, List.length_append]; exact ho6
              case measure => simp [intOf]; omega
          · obtain rfl : q = s.C[k].length := by omega
            rw [List.take_length] at Hoq
            rw [List.take_length]
            go_wp2_with (at_builtin
                         go_must (refine wpList_push rfl _ _ _ rfl eRow (v := .slice AL (fixC (s.C.take k) n).length kL) rfl (((ch_new Hbq.out (fun _ => False)).own Hown.out (fun _ _ x => x)).alloc _) wq.heap.size (.slice Ad (s.C[k].filter fun x => !(x == -n)).length kd) rfl (by simp [go_sem]) rfl (by omega) (by have := Hbel.out.size; have := Hbq.out.size; simp; omega) ?_)
                         intro v5 w5' ho5 hg5 hat5)
            go_roundw
            case rel =>
              have hr := fix_round Hown.out Hcl.out Hbel.out Hbq.out Hoq.out hg5 hat5
              refine ⟨k + 1, by omega, by go_num, hr.1, xs ++ [.slice Ad (s.C[k].filter fun x => !(x == -n)).length kd], ?_, ?_⟩
              · rw [Hs'.out, List.length_append]; exact ho5
              · rw [Hs'.out]; exact hr.2
            case measure => simp [intOf]; omega
    · obtain rfl : k = s.C.length := by omega
      rw [List.take_length] at Hown Hcl
      rw [List.take_length]
      have hkk := HP.out.keep Hbel.out
      have hd0 := hkk.cell.1
      have hdf := hkk.frozen 0
      have hgx := HP.out.lt
      go_wp2
      go_end0
      have hx := hkk.setC (vC' := .slice AL (fixC s.C n).length kL) (C' := fixC s.C n) (reads_of_own Hown.out rfl (fun b hb => ⟨(Hown.out.lt b hb).2, by have := (Hown.out.lt b hb).1; omega, fun e => by have := (HP.out.ltF.1 b e.symm).2; have := (Hown.out.lt b hb).1; omega, fun e => by have := (HP.out.ltF.2 b e.symm).2; have := (Hown.out.lt b hb).1; omega⟩)
        fun i hi u hu => RInts.stable.sub (Hcl.out i hi u hu) fun b hb => ⟨hb.2.1, by omega, fun e => by have := (HP.out.ltF.1 b e.symm).2; omega, fun e => by have := (HP.out.ltF.2 b e.symm).2; omega⟩)
      exact ⟨rfl, hx.rk, (Hbx.out.trans (Hbel.out.mono (Nat.le_of_lt hgx))).setCell (Nat.le_refl _) _⟩
end Go.Proofs.Ytdofiipckcfopaa
