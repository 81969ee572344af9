/- projects, keys, patterns that may be. (Written by mkCo4.py.) -/
import Derived.Test.YtldhgdoeehnbjaaDoorCoW3
namespace Go.Proofs.YtldhgdoeehnbjaaDoor
open Go.RowKit
open C01

theorem box4 {w w1 : World} {a b c d : Value} {t : TypeId} (h : Below (w.alloc (.cells #[a, b, c, d] t)).heap.size (w.alloc (.cells #[a, b, c, d] t)) w1) :
    w1.cell? ⟨w.heap.size, 0, none⟩ = some a ∧ w1.cell? ⟨w.heap.size, 1, none⟩ = some b ∧ w1.cell? ⟨w.heap.size, 2, none⟩ = some c ∧ w1.cell? ⟨w.heap.size, 3, none⟩ = some d := ⟨box_cell h 0, box_cell h 1, box_cell h 2, box_cell h 3⟩
theorem refIsId_b (s : ByteArray) (w : World) (hs : s.size ≤ 1000000) : Calls Tryd.prog 22 #[.string s] w fun e w' => e = .returned (.bool (idS s)) ∧ Below w.heap.size w w' := (refIsId_any s w hs).mono fun e w' h => ⟨h.1, h.2 ▸ Below.refl _ _⟩
theorem refMay_b (s : ByteArray) (w : World) (hs : s.size ≤ 1000000) : Calls Tryd.prog 44 #[.string s] w fun e w' => e = .returned (.bool (verS s)) ∧ Below w.heap.size w w' := (refMay_any s w hs).mono fun e w' h => ⟨h.1, h.2 ▸ Below.refl _ _⟩
theorem box_up {w w1 : World} {o : Obj} (h : Below (w.alloc o).heap.size (w.alloc o) w1) : Below w.heap.size w w1 := (below_alloc w o).trans (h.mono (by simp))
def emptyB (d : ByteArray) : Bool := d.toList == []
def mayK (a b c d : ByteArray) : Bool := idS a && idS b && idS c && (emptyB d || idS d)
def mayG (a b c : ByteArray) : Bool := idS a && idS b && verS c
def starB (d : ByteArray) : Bool := d.toList == [42]
def wildB (d : ByteArray) : Bool := starB d || idS d
def mayP (a b : ByteArray) : Bool := wildB a && wildB b
set_option maxHeartbeats 2000000 in
theorem MayKey_any (a b c d : ByteArray) (w : World) (ha : a.size ≤ 1000000) (hb : b.size ≤ 1000000) (hc : c.size ≤ 1000000) (hd : d.size ≤ 1000000) : Calls Tryd.prog 26 #[.agg #[.string a, .string b, .string c, .string d]] w fun e w' => e = .returned (.bool (mayK a b c d)) ∧ Below w.heap.size w w' := by
  have H0 := Lib.hid (fun w1 (hq : Below (w.alloc (.cells #[.string a, .string b, .string c, .string d] 30)).heap.size (w.alloc (.cells #[.string a, .string b, .string c, .string d] 30)) w1) => show Calls Tryd.prog 23 #[.string a] w1 fun e w' => e = .returned (.bool (idS a)) ∧ Below (w.alloc (.cells #[.string a, .string b, .string c, .string d] 30)).heap.size (w.alloc (.cells #[.string a, .string b, .string c, .string d] 30)) w' from (IsId_any a w1 ha).mono fun e w' h => ⟨h.1, hq.trans (h.2.mono hq.size)⟩)
  have H1 := Lib.hid (fun w1 (hq : Below (w.alloc (.cells #[.string a, .string b, .string c, .string d] 30)).heap.size (w.alloc (.cells #[.string a, .string b, .string c, .string d] 30)) w1) => show Calls Tryd.prog 23 #[.string b] w1 fun e w' => e = .returned (.bool (idS b)) ∧ Below (w.alloc (.cells #[.string a, .string b, .string c, .string d] 30)).heap.size (w.alloc (.cells #[.string a, .string b, .string c, .string d] 30)) w' from (IsId_any b w1 hb).mono fun e w' h => ⟨h.1, hq.trans (h.2.mono hq.size)⟩)
  have H2 := Lib.hid (fun w1 (hq : Below (w.alloc (.cells #[.string a, .string b, .string c, .string d] 30)).heap.size (w.alloc (.cells #[.string a, .string b, .string c, .string d] 30)) w1) => show Calls Tryd.prog 23 #[.string c] w1 fun e w' => e = .returned (.bool (idS c)) ∧ Below (w.alloc (.cells #[.string a, .string b, .string c, .string d] 30)).heap.size (w.alloc (.cells #[.string a, .string b, .string c, .string d] 30)) w' from (IsId_any c w1 hc).mono fun e w' h => ⟨h.1, hq.trans (h.2.mono hq.size)⟩)
  have H3 := Lib.hid (fun w1 (hq : Below (w.alloc (.cells #[.string a, .string b, .string c, .string d] 30)).heap.size (w.alloc (.cells #[.string a, .string b, .string c, .string d] 30)) w1) => show Calls Tryd.prog 23 #[.string d] w1 fun e w' => e = .returned (.bool (idS d)) ∧ Below (w.alloc (.cells #[.string a, .string b, .string c, .string d] 30)).heap.size (w.alloc (.cells #[.string a, .string b, .string c, .string d] 30)) w' from (IsId_any d w1 hd).mono fun e w' h => ⟨h.1, hq.trans (h.2.mono hq.size)⟩)
  have HQ := Lib.hid (Below.refl (w.alloc (.cells #[.string a, .string b, .string c, .string d] 30)).heap.size (w.alloc (.cells #[.string a, .string b, .string c, .string d] 30)))
  have Hr := Lib.hid (show mayK a b c d = (idS a && idS b && idS c && ((d.toList == []) || idS d)) from rfl)
  generalize mayK a b c d = r at Hr ⊢
  generalize idS a = ia at Hr H0
  generalize idS b = ib at Hr H1
  generalize idS c = ic at Hr H2
  generalize idS d = id at Hr H3
  obtain ⟨z, hz⟩ : ∃ z, (d.toList == []) = z := ⟨_, rfl⟩
  rw [hz] at Hr
  clear ha hb hc hd
  go_enter Tryd.func26, Tryd.ntmps26
  go_wp2_with (first
      | (go_at_call 23; with_reducible refine (H0.out _ HQ.out).mono ?_; rintro e w1 ⟨rfl, hq⟩; obtain ⟨c0, c1, c2, c3⟩ := box4 hq; have HQ := Lib.hid hq; clear hq)
      | (go_at_call 23; with_reducible refine (H1.out _ HQ.out).mono ?_; rintro e w1 ⟨rfl, hq⟩; obtain ⟨c0, c1, c2, c3⟩ := box4 hq; have HQ := Lib.hid hq; clear hq)
      | (go_at_call 23; with_reducible refine (H2.out _ HQ.out).mono ?_; rintro e w1 ⟨rfl, hq⟩; obtain ⟨c0, c1, c2, c3⟩ := box4 hq; have HQ := Lib.hid hq; clear hq)
      | (go_at_call 23; with_reducible refine (H3.out _ HQ.out).mono ?_; rintro e w1 ⟨rfl, hq⟩; obtain ⟨c0, c1, c2, c3⟩ := box4 hq; have HQ := Lib.hid hq; clear hq))
  all_goals
    go_ret
    refine ⟨ret_bool ?_, box_up HQ.out⟩
    rw [Hr.out]
    first | rfl | (simp_all; done) | (simp [*]; done)
set_option maxHeartbeats 2000000 in
theorem refMayKey_any (a b c d : ByteArray) (w : World) (ha : a.size ≤ 1000000) (hb : b.size ≤ 1000000) (hc : c.size ≤ 1000000) (hd : d.size ≤ 1000000) : Calls Tryd.prog 27 #[.agg #[.string a, .string b, .string c, .string d]] w fun e w' => e = .returned (.bool (mayK a b c d)) ∧ Below w.heap.size w w' := by
  have H0 := Lib.hid (fun w1 (hq : Below (w.alloc (.cells #[.string a, .string b, .string c, .string d] 30)).heap.size (w.alloc (.cells #[.string a, .string b, .string c, .string d] 30)) w1) => show Calls Tryd.prog 22 #[.string a] w1 fun e w' => e = .returned (.bool (idS a)) ∧ Below (w.alloc (.cells #[.string a, .string b, .string c, .string d] 30)).heap.size (w.alloc (.cells #[.string a, .string b, .string c, .string d] 30)) w' from (refIsId_b a w1 ha).mono fun e w' h => ⟨h.1, hq.trans (h.2.mono hq.size)⟩)
  have H1 := Lib.hid (fun w1 (hq : Below (w.alloc (.cells #[.string a, .string b, .string c, .string d] 30)).heap.size (w.alloc (.cells #[.string a, .string b, .string c, .string d] 30)) w1) => show Calls Tryd.prog 22 #[.string b] w1 fun e w' => e = .returned (.bool (idS b)) ∧ Below (w.alloc (.cells #[.string a, .string b, .string c, .string d] 30)).heap.size (w.alloc (.cells #[.string a, .string b, .string c, .string d] 30)) w' from (refIsId_b b w1 hb).mono fun e w' h => ⟨h.1, hq.trans (h.2.mono hq.size)⟩)
  have H2 := Lib.hid (fun w1 (hq : Below (w.alloc (.cells #[.string a, .string b, .string c, .string d] 30)).heap.size (w.alloc (.cells #[.string a, .string b, .string c, .string d] 30)) w1) => show Calls Tryd.prog 22 #[.string c] w1 fun e w' => e = .returned (.bool (idS c)) ∧ Below (w.alloc (.cells #[.string a, .string b, .string c, .string d] 30)).heap.size (w.alloc (.cells #[.string a, .string b, .string c, .string d] 30)) w' from (refIsId_b c w1 hc).mono fun e w' h => ⟨h.1, hq.trans (h.2.mono hq.size)⟩)
  have H3 := Lib.hid (fun w1 (hq : Below (w.alloc (.cells #[.string a, .string b, .string c, .string d] 30)).heap.size (w.alloc (.cells #[.string a, .string b, .string c, .string d] 30)) w1) => show Calls Tryd.prog 22 #[.string d] w1 fun e w' => e = .returned (.bool (idS d)) ∧ Below (w.alloc (.cells #[.string a, .string b, .string c, .string d] 30)).heap.size (w.alloc (.cells #[.string a, .string b, .string c, .string d] 30)) w' from (refIsId_b d w1 hd).mono fun e w' h => ⟨h.1, hq.trans (h.2.mono hq.size)⟩)
  have HQ := Lib.hid (Below.refl (w.alloc (.cells #[.string a, .string b, .string c, .string d] 30)).heap.size (w.alloc (.cells #[.string a, .string b, .string c, .string d] 30)))
  have Hr := Lib.hid (show mayK a b c d = (idS a && idS b && idS c && ((d.toList == []) || idS d)) from rfl)
  generalize mayK a b c d = r at Hr ⊢
  generalize idS a = ia at Hr H0
  generalize idS b = ib at Hr H1
  generalize idS c = ic at Hr H2
  generalize idS d = id at Hr H3
  obtain ⟨z, hz⟩ : ∃ z, (d.toList == []) = z := ⟨_, rfl⟩
  rw [hz] at Hr
  clear ha hb hc hd
  go_enter Tryd.func27, Tryd.ntmps27
  go_wp2_with (first
      | (go_at_call 22; with_reducible refine (H0.out _ HQ.out).mono ?_; rintro e w1 ⟨rfl, hq⟩; obtain ⟨c0, c1, c2, c3⟩ := box4 hq; have HQ := Lib.hid hq; clear hq)
      | (go_at_call 22; with_reducible refine (H1.out _ HQ.out).mono ?_; rintro e w1 ⟨rfl, hq⟩; obtain ⟨c0, c1, c2, c3⟩ := box4 hq; have HQ := Lib.hid hq; clear hq)
      | (go_at_call 22; with_reducible refine (H2.out _ HQ.out).mono ?_; rintro e w1 ⟨rfl, hq⟩; obtain ⟨c0, c1, c2, c3⟩ := box4 hq; have HQ := Lib.hid hq; clear hq)
      | (go_at_call 22; with_reducible refine (H3.out _ HQ.out).mono ?_; rintro e w1 ⟨rfl, hq⟩; obtain ⟨c0, c1, c2, c3⟩ := box4 hq; have HQ := Lib.hid hq; clear hq))
  all_goals
    go_ret
    refine ⟨ret_bool ?_, box_up HQ.out⟩
    rw [Hr.out]
    first | rfl | (simp_all; done) | (simp [*]; done)
set_option maxHeartbeats 2000000 in
theorem MayGav_any (a b c : ByteArray) (m : Int) (w : World) (ha : a.size ≤ 1000000) (hb : b.size ≤ 1000000) (hc : c.size ≤ 1000000) (hm : w.cell? ⟨0, 0, none⟩ = some (.int .i64 m)) : Calls Tryd.prog 24 #[.agg #[.string a, .string b, .string c]] w fun e w' => e = .returned (.bool (mayG a b c)) ∧ Below w.heap.size w w' := by
  have hgl0 := World.block_lt_of_cell? _ _ hm
  have hma : (w.alloc (.cells #[.string a, .string b, .string c] 35)).cell? ⟨0, 0, none⟩ = some (.int .i64 m) := by rw [World.cell?_alloc_old _ _ _ (Nat.ne_of_lt hgl0)]; exact hm
  have hgl : 0 < (w.alloc (.cells #[.string a, .string b, .string c] 35)).heap.size := World.block_lt_of_cell? _ _ hma
  have H0 := Lib.hid (fun w1 (hq : Below (w.alloc (.cells #[.string a, .string b, .string c] 35)).heap.size (w.alloc (.cells #[.string a, .string b, .string c] 35)) w1) => show Calls Tryd.prog 23 #[.string a] w1 fun e w' => e = .returned (.bool (idS a)) ∧ Below (w.alloc (.cells #[.string a, .string b, .string c] 35)).heap.size (w.alloc (.cells #[.string a, .string b, .string c] 35)) w' from (IsId_any a w1 ha).mono fun e w' h => ⟨h.1, hq.trans (h.2.mono hq.size)⟩)
  have H1 := Lib.hid (fun w1 (hq : Below (w.alloc (.cells #[.string a, .string b, .string c] 35)).heap.size (w.alloc (.cells #[.string a, .string b, .string c] 35)) w1) => show Calls Tryd.prog 23 #[.string b] w1 fun e w' => e = .returned (.bool (idS b)) ∧ Below (w.alloc (.cells #[.string a, .string b, .string c] 35)).heap.size (w.alloc (.cells #[.string a, .string b, .string c] 35)) w' from (IsId_any b w1 hb).mono fun e w' h => ⟨h.1, hq.trans (h.2.mono hq.size)⟩)
  have H2 := Lib.hid (fun w1 (hq : Below (w.alloc (.cells #[.string a, .string b, .string c] 35)).heap.size (w.alloc (.cells #[.string a, .string b, .string c] 35)) w1) => show Calls Tryd.prog 43 #[.string c] w1 fun e w' => e = .returned (.bool (verS c)) ∧ Below (w.alloc (.cells #[.string a, .string b, .string c] 35)).heap.size (w.alloc (.cells #[.string a, .string b, .string c] 35)) w' from (May_any c m w1 hc ((hq.cell (p := ⟨0, 0, none⟩) hgl).trans hma)).mono fun e w' h => ⟨h.1, hq.trans (h.2.mono hq.size)⟩)
  have HQ := Lib.hid (Below.refl (w.alloc (.cells #[.string a, .string b, .string c] 35)).heap.size (w.alloc (.cells #[.string a, .string b, .string c] 35)))
  have Hr := Lib.hid (show mayG a b c = (idS a && idS b && verS c) from rfl)
  generalize mayG a b c = r at Hr ⊢
  generalize idS a = ia at Hr H0
  generalize idS b = ib at Hr H1
  generalize verS c = ic at Hr H2
  clear hm hma hgl hgl0
  clear ha hb hc
  go_enter Tryd.func24, Tryd.ntmps24
  go_wp2_with (first
      | (go_at_call 23; with_reducible refine (H0.out _ HQ.out).mono ?_; rintro e w1 ⟨rfl, hq⟩; obtain ⟨c0, c1, c2⟩ := box3 hq; have HQ := Lib.hid hq; clear hq)
      | (go_at_call 23; with_reducible refine (H1.out _ HQ.out).mono ?_; rintro e w1 ⟨rfl, hq⟩; obtain ⟨c0, c1, c2⟩ := box3 hq; have HQ := Lib.hid hq; clear hq)
      | (go_at_call 43; with_reducible refine (H2.out _ HQ.out).mono ?_; rintro e w1 ⟨rfl, hq⟩; obtain ⟨c0, c1, c2⟩ := box3 hq; have HQ := Lib.hid hq; clear hq))
  all_goals
    go_ret
    refine ⟨ret_bool ?_, box_up HQ.out⟩
    rw [Hr.out]
    first | rfl | (simp_all; done) | (simp [*]; done)
set_option maxHeartbeats 2000000 in
theorem refMayGav_any (a b c : ByteArray) (w : World) (ha : a.size ≤ 1000000) (hb : b.size ≤ 1000000) (hc : c.size ≤ 1000000) : Calls Tryd.prog 25 #[.agg #[.string a, .string b, .string c]] w fun e w' => e = .returned (.bool (mayG a b c)) ∧ Below w.heap.size w w' := by
  have H0 := Lib.hid (fun w1 (hq : Below (w.alloc (.cells #[.string a, .string b, .string c] 35)).heap.size (w.alloc (.cells #[.string a, .string b, .string c] 35)) w1) => show Calls Tryd.prog 22 #[.string a] w1 fun e w' => e = .returned (.bool (idS a)) ∧ Below (w.alloc (.cells #[.string a, .string b, .string c] 35)).heap.size (w.alloc (.cells #[.string a, .string b, .string c] 35)) w' from (refIsId_b a w1 ha).mono fun e w' h => ⟨h.1, hq.trans (h.2.mono hq.size)⟩)
  have H1 := Lib.hid (fun w1 (hq : Below (w.alloc (.cells #[.string a, .string b, .string c] 35)).heap.size (w.alloc (.cells #[.string a, .string b, .string c] 35)) w1) => show Calls Tryd.prog 22 #[.string b] w1 fun e w' => e = .returned (.bool (idS b)) ∧ Below (w.alloc (.cells #[.string a, .string b, .string c] 35)).heap.size (w.alloc (.cells #[.string a, .string b, .string c] 35)) w' from (refIsId_b b w1 hb).mono fun e w' h => ⟨h.1, hq.trans (h.2.mono hq.size)⟩)
  have H2 := Lib.hid (fun w1 (hq : Below (w.alloc (.cells #[.string a, .string b, .string c] 35)).heap.size (w.alloc (.cells #[.string a, .string b, .string c] 35)) w1) => show Calls Tryd.prog 44 #[.string c] w1 fun e w' => e = .returned (.bool (verS c)) ∧ Below (w.alloc (.cells #[.string a, .string b, .string c] 35)).heap.size (w.alloc (.cells #[.string a, .string b, .string c] 35)) w' from (refMay_b c w1 hc).mono fun e w' h => ⟨h.1, hq.trans (h.2.mono hq.size)⟩)
  have HQ := Lib.hid (Below.refl (w.alloc (.cells #[.string a, .string b, .string c] 35)).heap.size (w.alloc (.cells #[.string a, .string b, .string c] 35)))
  have Hr := Lib.hid (show mayG a b c = (idS a && idS b && verS c) from rfl)
  generalize mayG a b c = r at Hr ⊢
  generalize idS a = ia at Hr H0
  generalize idS b = ib at Hr H1
  generalize verS c = ic at Hr H2
  clear ha hb hc
  go_enter Tryd.func25, Tryd.ntmps25
  go_wp2_with (first
      | (go_at_call 22; with_reducible refine (H0.out _ HQ.out).mono ?_; rintro e w1 ⟨rfl, hq⟩; obtain ⟨c0, c1, c2⟩ := box3 hq; have HQ := Lib.hid hq; clear hq)
      | (go_at_call 22; with_reducible refine (H1.out _ HQ.out).mono ?_; rintro e w1 ⟨rfl, hq⟩; obtain ⟨c0, c1, c2⟩ := box3 hq; have HQ := Lib.hid hq; clear hq)
      | (go_at_call 44; with_reducible refine (H2.out _ HQ.out).mono ?_; rintro e w1 ⟨rfl, hq⟩; obtain ⟨c0, c1, c2⟩ := box3 hq; have HQ := Lib.hid hq; clear hq))
  all_goals
    go_ret
    refine ⟨ret_bool ?_, box_up HQ.out⟩
    rw [Hr.out]
    first | rfl | (simp_all; done) | (simp [*]; done)
set_option maxHeartbeats 1000000 in
theorem isWild_any (d : ByteArray) (w : World) (hd : d.size ≤ 1000000) : Calls Tryd.prog 45 #[.string d] w fun e w' => e = .returned (.bool (wildB d)) ∧ Below w.heap.size w w' := by
  have H0 := Lib.hid (fun w => IsId_any d w hd)
  have Hr := Lib.hid (show wildB d = ((d.toList == [42]) || idS d) from rfl)
  generalize wildB d = r at Hr ⊢
  generalize idS d = i at Hr H0
  have HQ := Lib.hid (Below.refl w.heap.size w)
  cases hz : (d.toList == [42])
  all_goals
    rw [hz] at Hr
    go_enter Tryd.func45, Tryd.ntmps45
    go_wp2_with (go_at_call 23; with_reducible refine (H0.out _).mono ?_; rintro e w1 ⟨rfl, hq⟩; have HQ := Lib.hid hq; clear hq)
    go_ret
    refine ⟨ret_bool ?_, HQ.out⟩
    rw [Hr.out]
    first | rfl | (simp; done)
set_option maxHeartbeats 2000000 in
theorem MayPattern_any (a b : ByteArray) (w : World) (ha : a.size ≤ 1000000) (hb : b.size ≤ 1000000) : Calls Tryd.prog 28 #[.agg #[.string a, .string b]] w fun e w' => e = .returned (.bool (mayP a b)) ∧ Below w.heap.size w w' := by
  have H0 := Lib.hid (fun w1 (hq : Below (w.alloc (.cells #[.string a, .string b] 23)).heap.size (w.alloc (.cells #[.string a, .string b] 23)) w1) => show Calls Tryd.prog 45 #[.string a] w1 fun e w' => e = .returned (.bool (wildB a)) ∧ Below (w.alloc (.cells #[.string a, .string b] 23)).heap.size (w.alloc (.cells #[.string a, .string b] 23)) w' from (isWild_any a w1 ha).mono fun e w' h => ⟨h.1, hq.trans (h.2.mono hq.size)⟩)
  have H1 := Lib.hid (fun w1 (hq : Below (w.alloc (.cells #[.string a, .string b] 23)).heap.size (w.alloc (.cells #[.string a, .string b] 23)) w1) => show Calls Tryd.prog 45 #[.string b] w1 fun e w' => e = .returned (.bool (wildB b)) ∧ Below (w.alloc (.cells #[.string a, .string b] 23)).heap.size (w.alloc (.cells #[.string a, .string b] 23)) w' from (isWild_any b w1 hb).mono fun e w' h => ⟨h.1, hq.trans (h.2.mono hq.size)⟩)
  have HQ := Lib.hid (Below.refl (w.alloc (.cells #[.string a, .string b] 23)).heap.size (w.alloc (.cells #[.string a, .string b] 23)))
  have Hr := Lib.hid (show mayP a b = (wildB a && wildB b) from rfl)
  generalize mayP a b = r at Hr ⊢
  generalize wildB a = ia at Hr H0
  generalize wildB b = ib at Hr H1
  clear ha hb
  go_enter Tryd.func28, Tryd.ntmps28
  go_wp2_with (first
      | (go_at_call 45; with_reducible refine (H0.out _ HQ.out).mono ?_; rintro e w1 ⟨rfl, hq⟩; obtain ⟨c0, c1⟩ := box2 hq; have HQ := Lib.hid hq; clear hq)
      | (go_at_call 45; with_reducible refine (H1.out _ HQ.out).mono ?_; rintro e w1 ⟨rfl, hq⟩; obtain ⟨c0, c1⟩ := box2 hq; have HQ := Lib.hid hq; clear hq))
  all_goals
    go_ret
    refine ⟨ret_bool ?_, box_up HQ.out⟩
    rw [Hr.out]
    first | rfl | (simp_all; done) | (simp [*]; done)
end Go.Proofs.YtldhgdoeehnbjaaDoor
