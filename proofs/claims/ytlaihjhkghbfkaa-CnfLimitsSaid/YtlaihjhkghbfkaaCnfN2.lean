/- The law CnfLimits, walked. -/
import Derived.Test.YtlaihjhkghbfkaaCnfN1
import Derived.Deep.DeepCutAuto
import Derived.Laws.IdiomStrings
namespace Go.Proofs.Ytlaihjhkghbfkaa
open Go.RowKit Go.Sort

def ElemN (P : Program) (t e : TypeId) (size bytes : Nat) : Prop := P.underlying t = some (.slice e) ∧ bytes ≤ 128 ∧ 0 < size ∧ ∃ i z, P.info? e = some i ∧ i.zero = some z ∧ i.size = size ∧ i.bytes = bytes ∧ z.cells.size = size
def elemNB (o : Option TypeInfo) (size bytes : Nat) : Bool := match o with | some i => (match i.zero with | some z => i.size == size && i.bytes == bytes && z.cells.size == size | none => false) | none => false
theorem elemN_mk {P : Program} {t e : TypeId} {size bytes : Nat} (h1 : P.underlying t = some (.slice e)) (h2 : elemNB (P.info? e) size bytes = true) (h3 : bytes ≤ 128) (h5 : 0 < size) : ElemN P t e size bytes := by
  unfold elemNB at h2
  split at h2
  · next i hi =>
    split at h2
    · next z hz =>
      simp only [Bool.and_eq_true, beq_iff_eq] at h2
      exact ⟨h1, h3, h5, i, z, hi, hz, h2.1.1, h2.1.2, h2.2⟩
    · exact absurd h2 (by simp)
  · exact absurd h2 (by simp)
/-- append of one value of several cells, which lies alone in a block that was just made. -/
theorem wpList_pushN {P : Program} {w : World} {ops : Array Oper} {rest : List Oper} {o : Oper} {a : Act} {Q : Exit → Act → World → Prop} (hgd : o.guard = none) (s x : Operand) (t : TypeId)
    (ho : o.op = .call { callee := .builtin .append, args := #[s, x], argTypes := #[t, t] }) {base : Nat} {e : TypeId} {size bytes : Nat} (he : ElemN P t e size bytes)
    {v : Value} {n : Nat} {xs : List Value} (hs : a.eval s = v) (hown : w.ownsRow base e size v n xs) (g : Nat) (news : List Value) (hx : a.eval x = .slice (some ⟨g, 0, none⟩) 1 1)
    (hl : news.length = size) (hc : ∀ j u, news[j]? = some u → w.cell? ⟨g, j, none⟩ = some u) (h1 : ∀ u ∈ news, u.oneCell' = true) (hn : n < 1000000000000) (hbase : base ≤ w.heap.size)
    (h : ∀ v' w', w'.ownsRow base e size v' (n + 1) (xs ++ news) → w.grownBy w' v.ownBlock → (v'.ownBlock = v.ownBlock ∨ v'.ownBlock = some w.heap.size) → wpList P ops Q rest (a.put o.dst v') w') :
    wpList P ops Q (o :: rest) a w := by
  obtain ⟨ht, h64, hs0, i, z, hi, hz, hsz, hby, hzs⟩ := he
  refine wpList_append_own_at w hgd s x t ho base e i z size bytes ht hi hz hsz hby hzs hs0 v n xs hs hown ⟨g, 0, none⟩ 1 1 news hx (by rw [hl]; omega) ?_ h1 ?_ ?_ hbase fun v' w' h2 h3 _ h5 => h v' w' h2 h3 h5
  · intro j u hu
    rw [add_none, Nat.zero_add]
    exact hc j u hu
  · unfold maxLen; omega
  · have : (n + 1) * bytes ≤ 1000000000000 * 128 := Nat.mul_le_mul (by omega) h64
    omega
theorem eItem : ElemN Try.prog 22 50 5 80 := elemN_mk Try.underlying22 (by kernel_rfl) (by omega) (by omega)
theorem eWants : Elem1 Try.prog 23 32 24 := elem1_mk (z := .slice none 0 0) Try.underlying23 (by kernel_rfl) (by omega) rfl
def LimAt (w : World) (b : Nat) (al : Bool) (k : Nat) : Prop :=
  ∃ vI vW, w.heap[b]? = some (.cells #[vI, vW, .int .i64 0] 25 (0, 0)) ∧ w.ownsRow (b + 1) 50 5 vI k ((limItems al k).flatMap itemCells) ∧
    w.ownsRow (b + 1) 32 1 vW k (List.replicate k (.slice none 0 0)) ∧ (vI.ownBlock = none ∨ vI.ownBlock ≠ vW.ownBlock)
theorem LimAt.start (w : World) (al : Bool) : LimAt (w.alloc (.cells #[.slice none 0 0, .slice none 0 0, .int .i64 0] 25)) w.heap.size al 0 :=
  ⟨_, _, heap_alloc_new _ _, by simpa [limItems] using World.ownsRow_nil _ _ _ _, by simpa using World.ownsRow_nil _ _ _ _, .inl rfl⟩

section
variable {wr w2 w3 w5 : World} {b k : Nat} {al : Bool} {vI vW v1 v2 : Value} {x : Obj} {xs ys xs' ys' : List Value}
theorem lim_m1 (hb : wr.heap[b]? = some (.cells #[vI, vW, .int .i64 0] 25 (0, 0))) (hI : wr.ownsRow (b + 1) 50 5 vI k xs) (h2 : Below wr.heap.size wr w2) (hg1 : w2.grownBy w3 vI.ownBlock) :
    w3.heap[b]? = some (.cells #[vI, vW, .int .i64 0] 25 (0, 0)) := by
  have hlt : b < wr.heap.size := (Array.getElem?_eq_some_iff.1 hb).1
  rw [hg1.block b (Nat.lt_of_lt_of_le hlt h2.size) (fun e => by have := (hI.lt b e.symm).1; omega), h2.block b hlt, hb]
theorem setCell_grown (w : World) (b o : Nat) (v : Value) : w.grownBy (w.setCell ⟨b, o, none⟩ v) (some b) := ⟨rfl, rfl, rfl, by simp, fun k _ hk => Below.heap_setCell _ _ _ _ (fun e => hk (by simp [e]))⟩
theorem own_ne {w : World} {t : TypeId} {n : Nat} {v : Value} {sz : Nat} (h : w.ownsRow (b + 1) t sz v n xs) : v.ownBlock = none ∨ v.ownBlock ≠ some b := by
  cases hv : v.ownBlock with
  | none => exact .inl rfl
  | some g => exact .inr fun e => by have := (h.lt g hv).1; simp at e; omega
theorem lim_m2 (hW : wr.ownsRow (b + 1) 32 1 vW k ys) (hne : vI.ownBlock = none ∨ vI.ownBlock ≠ vW.ownBlock) (h2 : Below wr.heap.size wr w2) (hg1 : w2.grownBy w3 vI.ownBlock) :
    ((w3.setCell ⟨b, 0, none⟩ v1).alloc x).ownsRow (b + 1) 32 1 vW k ys := by
  have h2' : wr.grownBy w2 none := ⟨h2.os, h2.tape, h2.output, h2.size, fun k hk _ => h2.block k hk⟩
  have a := (hW.kept h2' (by cases vW.ownBlock <;> simp)).kept hg1 (by
    cases hv : vW.ownBlock with
    | none => exact .inl rfl
    | some g =>
      rcases hne with h | h
      · rw [h]; exact .inr (by simp)
      · exact .inr (by rw [hv] at h; exact fun e => h e.symm))
  exact (a.kept (setCell_grown _ _ _ _) (own_ne a)).alloc _
theorem lim_m3 (hb3 : w3.heap[b]? = some (.cells #[vI, vW, .int .i64 0] 25 (0, 0))) (hW : ((w3.setCell ⟨b, 0, none⟩ v1).alloc x).ownsRow (b + 1) 32 1 vW k ys) (hg2 : ((w3.setCell ⟨b, 0, none⟩ v1).alloc x).grownBy w5 vW.ownBlock) :
    w5.heap[b]? = some (.cells #[v1, vW, .int .i64 0] 25 (0, 0)) := by
  have hlt : b < w3.heap.size := (Array.getElem?_eq_some_iff.1 hb3).1
  rw [hg2.block b (by simp; omega) (fun e => by have := (hW.lt b e.symm).1; omega), Below.heap_alloc _ _ _ (by simpa using hlt), heap_setCell_same w3 b 0 _ _ v1 hb3]
  rfl
theorem lim_push (hb : wr.heap[b]? = some (.cells #[vI, vW, .int .i64 0] 25 (0, 0))) (hI : wr.ownsRow (b + 1) 50 5 vI k xs) (hW : wr.ownsRow (b + 1) 32 1 vW k ys) (hne : vI.ownBlock = none ∨ vI.ownBlock ≠ vW.ownBlock)
    (h2 : Below wr.heap.size wr w2) (hown1 : w3.ownsRow (b + 1) 50 5 v1 (k + 1) ((limItems al (k + 1)).flatMap itemCells)) (hg1 : w2.grownBy w3 vI.ownBlock) (hat1 : v1.ownBlock = vI.ownBlock ∨ v1.ownBlock = some w2.heap.size)
    (hown2 : w5.ownsRow (b + 1) 32 1 v2 (k + 1) (List.replicate (k + 1) (.slice none 0 0))) (hg2 : ((w3.setCell ⟨b, 0, none⟩ v1).alloc x).grownBy w5 vW.ownBlock)
    (hat2 : v2.ownBlock = vW.ownBlock ∨ v2.ownBlock = some ((w3.setCell ⟨b, 0, none⟩ v1).alloc x).heap.size) :
    LimAt (w5.setCell ⟨b, 1, none⟩ v2) b al (k + 1) ∧ Below b wr (w5.setCell ⟨b, 1, none⟩ v2) := by
  have hb3 := lim_m1 hb hI h2 hg1
  have hW3 := lim_m2 (v1 := v1) (x := x) hW hne h2 hg1
  have hb5 := lim_m3 hb3 hW3 hg2
  have hlt : b < wr.heap.size := (Array.getElem?_eq_some_iff.1 hb).1
  have hne1 : v1.ownBlock = none ∨ v1.ownBlock ≠ vW.ownBlock := by
    rcases hat1 with h | h
    · rw [h]; exact hne
    · rw [h]
      refine .inr fun e => ?_
      have := (hW.lt _ e.symm).2
      have := h2.size
      omega
  have hn5 : v1.ownBlock = none ∨ v1.ownBlock ≠ v2.ownBlock := by
    rcases hat2 with h | h
    · rw [h]; exact hne1
    · rw [h]
      cases hv : v1.ownBlock with
      | none => exact .inl rfl
      | some g => exact .inr fun e => by have := (hown1.lt g hv).2; simp at e; omega
  refine ⟨⟨v1, v2, ?_, ?_, ?_, hn5⟩, ?_⟩
  · rw [heap_setCell_same w5 b 1 _ _ v2 hb5]; rfl
  · have a := ((hown1.kept (setCell_grown w3 b 0 v1) (own_ne hown1)).alloc x).kept hg2 hne1
    exact a.kept (setCell_grown _ _ _ _) (own_ne a)
  · exact hown2.kept (setCell_grown _ _ _ _) (own_ne hown2)
  · have e1 : Below b wr w3 := (h2.mono (Nat.le_of_lt hlt)).grown hg1 (by have := h2.size; omega) (fun i hi => by have := (hI.lt i hi).1; omega)
    have e2 := ((e1.setCell (p := ⟨b, 0, none⟩) (Nat.le_refl b) v1).alloc (by have := e1.size; simp; omega) x).grown hg2 (by have := e1.size; simp; omega) (fun i hi => by have := (hW.lt i hi).1; omega)
    exact e2.setCell (p := ⟨b, 1, none⟩) (Nat.le_refl b) v2
end

theorem own_ne_ge {w : World} {t : TypeId} {n b sz g : Nat} {v : Value} {xs : List Value} (h : w.ownsRow b t sz v n xs) (hg : w.heap.size ≤ g) : v.ownBlock = none ∨ v.ownBlock ≠ some g := by
  cases hv : v.ownBlock with
  | none => exact .inl rfl
  | some g' => exact .inr fun e => by have := (h.lt g' hv).2; simp at e; omega
theorem conv_cls (w : World) (k : Nat) (hk : k ≤ 1027) :
    (convert 48 9 (.slice (some ⟨w.heap.size + 1, 0, none⟩) 3 3)).run Try.prog ((w.alloc (.cells #[.string ⟨#[103]⟩, .string ⟨#[97]⟩, .string ⟨#[106, 97, 114]⟩, .string ⟨#[]⟩] 47)).alloc (.cells #[.int .u8 (97 + (k : Int) % 16), .int .u8 (97 + (k : Int) / 16 % 16), .int .u8 (97 + (k : Int) / 256)] 5)) =
      .ok (.string (clsOf k)) ((w.alloc (.cells #[.string ⟨#[103]⟩, .string ⟨#[97]⟩, .string ⟨#[106, 97, 114]⟩, .string ⟨#[]⟩] 47)).alloc (.cells #[.int .u8 (97 + (k : Int) % 16), .int .u8 (97 + (k : Int) / 16 % 16), .int .u8 (97 + (k : Int) / 256)] 5)) := by
  refine run_convert_bytes_back (P := Try.prog) _ 48 9 5 ⟨w.heap.size + 1, 0, none⟩ 3 [UInt8.ofNat (97 + k % 16), UInt8.ofNat (97 + k / 16 % 16), UInt8.ofNat (97 + k / 256)] Try.underlying48 Try.underlying5 Try.underlying9 ?_
  intro j hj
  rw [add_none, Nat.zero_add, cell_of_row _ _ j _ _ _ (heap_new (by simp))]
  have h2 : (UInt8.ofNat (97 + k / 256)).toNat = 97 + k / 256 := by simp; omega
  match j, hj with
  | 0, _ => simp; omega
  | 1, _ => simp; omega
  | 2, _ => simp; omega

theorem flat_at {α : Type} {f : α → List Value} {n : Nat} (hf : ∀ x, (f x).length = n) : ∀ (l : List α) (k : Nat) (hk : k < l.length) (j : Nat) (u : Value), (f l[k])[j]? = some u → (l.flatMap f)[k * n + j]? = some u
  | x :: l, 0, _, j, u, h => by
    rw [List.flatMap_cons, List.getElem?_append_left (by have := (List.getElem?_eq_some_iff.1 h).1; simpa using this)]
    simpa using h
  | x :: l, k + 1, hk, j, u, h => by
    have e : (k + 1) * n = k * n + n := Nat.succ_mul k n
    rw [List.flatMap_cons, List.getElem?_append_right (by rw [hf]; omega), hf, show (k + 1) * n + j - n = k * n + j by omega]
    exact flat_at hf l k (by simpa using hk) j u h
theorem lim_items {w : World} {b k : Nat} {al : Bool} {v : Value} (h : w.ownsRow b 50 5 v k ((limItems al k).flatMap itemCells)) : RItems w (Lt w.heap.size) v (limItems al k) := by
  have hlt := h.lt
  have hcs := fun g hg => h.cells (g := g) hg
  obtain ⟨_, ⟨rfl, rfl⟩ | ⟨g, cap, cur, rfl, hg, hh, hnc, hm, hs, ht⟩⟩ := h
  · exact ⟨none, 0, rfl, Nat.le_refl _, Nat.zero_le _, fun h => absurd h (by simp [limItems])⟩
  · refine ⟨some ⟨g, 0, none⟩, cap, by rw [limItems_length], by rw [limItems_length]; exact hnc, hm, fun hp => ⟨g, 0, rfl, (hlt g rfl).2, fun i hi j u hu => ?_⟩⟩
    have := hcs g rfl (i * 5 + j) u (flat_at (n := 5) (fun _ => rfl) _ i hi j u hu)
    rw [add_none] at this
    rw [show 0 + i * 5 + j = 0 + (i * 5 + j) by omega]
    exact this
theorem lim_wants {w : World} {b k : Nat} {v : Value} (h : w.ownsRow b 32 1 v k (List.replicate k (.slice none 0 0))) : RIntsss w (Lt w.heap.size) v (limWants k) :=
  reads_of_own h (by simp [limWants]) (fun g hg => (h.lt g hg).2) fun i hi u hu => by
    rw [List.getElem?_replicate] at hu
    split at hu
    · simp at hu; subst hu
      simp only [limWants, List.getElem_replicate]
      exact RSl.nil_ _ _ _
    · simp at hu

theorem lim_cases (al : Bool) {k : Nat} (h1 : 1 ≤ k) : ∃ vars cls err, encR (limItems al k) (limWants k) 0 = (vars, cls, err) ∧
    ((1024 < k ∧ err = 2 ∧ mayN (limItems al k).length 0 (limWants k) = 2) ∨
     (k ≤ 1024 ∧ al = true ∧ 16384 < k * (k - 1) / 2 + 1 ∧ err = 2 ∧ cls.length = 0 ∧ mayN (limItems al k).length 0 (limWants k) = 0) ∨
     (k ≤ 1024 ∧ al = true ∧ ¬ 16384 < k * (k - 1) / 2 + 1 ∧ err = 0 ∧ cls.length = k * (k - 1) / 2 + 1 ∧ mayN (limItems al k).length 0 (limWants k) = 0) ∨
     (k ≤ 1024 ∧ al = false ∧ err = 0 ∧ vars = k ∧ cls.length = 1 ∧ mayN (limItems al k).length 0 (limWants k) = 0)) := by
  by_cases hk : 1024 < k
  · exact ⟨_, _, _, enc_big hk, .inl ⟨hk, rfl, lim_big hk⟩⟩
  have hk' : k ≤ 1024 := by omega
  cases al with
  | true =>
    by_cases hb : 16384 < k * (k - 1) / 2 + 1
    · exact ⟨_, _, _, enc_many h1 hk' hb, .inr (.inl ⟨hk', rfl, hb, rfl, rfl, lim_may h1 hk'⟩)⟩
    · obtain ⟨cls, he, hl⟩ := enc_alike h1 hk' hb
      exact ⟨_, _, _, he, .inr (.inr (.inl ⟨hk', rfl, hb, rfl, hl, lim_may h1 hk'⟩))⟩
  | false =>
    obtain ⟨cls, he, hl⟩ := enc_apart h1 hk'
    exact ⟨_, _, _, he, .inr (.inr (.inr ⟨hk', rfl, rfl, rfl, hl, lim_may h1 hk'⟩))⟩

set_option maxRecDepth 100000 in
set_option maxHeartbeats 4000000 in
theorem limits_any (W : World) (n : Int) (al : Bool) (h1 : -9223372036854775808 ≤ n) (h2 : n ≤ 9223372036854775807) :
    Calls Try.prog 8 #[.int .i64 n, .bool al] W fun e W' => e = .returned (.bool true) ∧ Below W.heap.size W W' := by
  obtain ⟨m, hm⟩ : ∃ m : Nat, max 1 (min n 1027) = (m : Int) := ⟨(max 1 (min n 1027)).toNat, by omega⟩
  have hm1 : 1 ≤ m := by omega
  have hm2 : m ≤ 1027 := by omega
  have Hm := Lib.hid hm; clear hm
  go_enter Try.func8, Try.ntmps8
  go_upto_region 1 with fail
  go_cut [0] (fun s0 wx => s0 = .int .i64 m ∧ wx = W)
  case first =>
    go_wp2_with fail
    all_goals
      go_meet
      have := Hm.out
      exact ⟨by congr 1; omega, rfl⟩
  case rest =>
    obtain ⟨rfl, hwc⟩ := hcut
    obtain rfl := hwc.symm
    clear h1 h2 Hm
    go_wp2
    go_loopw [15] (fun sv wr => ∃ k : Nat, k ≤ m ∧ sv = .int .i64 k ∧ Below W.heap.size W wr ∧ LimAt wr W.heap.size al k) (fun sv _ => m - (intOf sv).toNat)
    case atStart => exact ⟨0, Nat.zero_le _, rfl, below_alloc _ _, LimAt.start _ _⟩
    case round =>
      obtain ⟨k, hkle, rfl, hbel, hat⟩ := hrel
      have Hbel := Lib.hid hbel
      by_cases hklt : k < m
      · obtain ⟨vI, vW, hb, hI, hW, hne⟩ := hat
        have hWw : W.heap.size < wr.heap.size := (Array.getElem?_eq_some_iff.1 hb).1
        have hc0 : wr.cell? ⟨W.heap.size, 0, none⟩ = some vI := by rw [cell_of_row _ _ 0 _ _ _ hb]; rfl
        have hc1 : wr.cell? ⟨W.heap.size, 1, none⟩ = some vW := by rw [cell_of_row _ _ 1 _ _ _ hb]; rfl
        obtain ⟨AI, kI, rfl⟩ := own_shape hI
        obtain ⟨AW, kW, rfl⟩ := own_shape hW
        have HI := Lib.hid hI; have HW := Lib.hid hW; have Hb := Lib.hid hb
        clear hI hW hb hbel
        cases al with
        | true =>
          go_wp2_with (first
            | (at_builtin
               refine wpList_pushN rfl _ _ _ rfl eItem (v := .slice AI k kI) rfl ((HI.out.alloc _).alloc _) (wr.heap.size + 1) (itemCells (limItem true k)) rfl rfl (by intro j u hu; rw [cell_of_row _ _ j _ _ _ (heap_new (by simp)), ← Array.getElem?_toList]; exact hu) (by intro u hu; simp only [itemCells, keyCells, List.cons_append, List.nil_append, List.mem_cons, List.not_mem_nil, or_false] at hu; (rcases hu with h | h | h | h | h) <;> (rw [h]; rfl)) (by omega) (by simp; omega) ?_
               intro v1 w3 hown1 hg1 hat1
               obtain ⟨A1, k1, rfl⟩ := own_shape hown1
               go_must (have hb3 := lim_m1 Hb.out HI.out ((below_alloc wr _).alloc (by simp) _) hg1)
               have hd1 : w3.cell? ⟨W.heap.size, 1, none⟩ = some (.slice AW k kW) := (by rw [cell_of_row _ _ 1 _ _ _ hb3]; rfl)
               have hd0 : w3.cell? ⟨W.heap.size, 0, none⟩ = some (.slice AI k kI) := (by rw [cell_of_row _ _ 0 _ _ _ hb3]; rfl)
               have hfz1 : w3.frozen? ⟨W.heap.size, 0, none⟩ = false := frozen_of_row w3 W.heap.size 0 _ _ hb3
               have Hb3 := Lib.hid hb3
               clear hb3)
            | (at_builtin
               go_must (refine wpList_push rfl _ _ _ rfl eWants (v := .slice AW k kW) rfl (lim_m2 HW.out hne ((below_alloc wr _).alloc (by simp) _) hg1) w3.heap.size (.slice none 0 0) rfl (by simp [go_sem]) rfl (by omega) (by have := hg1.size; simp at this; simp; omega) ?_)
               intro v2 w5 hown2 hg2 hat2
               obtain ⟨A2, k2, rfl⟩ := own_shape hown2
               go_must (have hb5 := lim_m3 Hb3.out (lim_m2 HW.out hne ((below_alloc wr _).alloc (by simp) _) hg1) hg2)
               have he1 : w5.cell? ⟨W.heap.size, 1, none⟩ = some (.slice AW k kW) := (by rw [cell_of_row _ _ 1 _ _ _ hb5]; rfl)
               have hfz2 : w5.frozen? ⟨W.heap.size, 1, none⟩ = false := frozen_of_row w5 W.heap.size 1 _ _ hb5
               clear hb5))
          go_roundw
          case rel =>
            have hp := lim_push (al := true) Hb.out HI.out HW.out hne ((below_alloc wr _).alloc (by simp) _) (by rw [limItems_succ, List.flatMap_append]; simpa using hown1) hg1 hat1 (by rw [List.replicate_succ']; exact hown2) hg2 hat2
            exact ⟨k + 1, by omega, by go_num, Hbel.out.trans hp.2, hp.1⟩
          case measure => simp [intOf]; omega
        | false =>
          have hcv := conv_cls wr k (by omega)
          go_wp2_with (first
            | (at_builtin
               refine wpList_pushN rfl _ _ _ rfl eItem (v := .slice AI k kI) rfl (((HI.out.alloc _).alloc _).alloc _) (wr.heap.size + 1 + 1) (itemCells (limItem false k)) rfl rfl (by intro j u hu; rw [cell_of_row _ _ j _ _ _ (heap_new (by simp)), ← Array.getElem?_toList]; exact hu) (by intro u hu; simp only [itemCells, keyCells, List.cons_append, List.nil_append, List.mem_cons, List.not_mem_nil, or_false] at hu; (rcases hu with h | h | h | h | h) <;> (rw [h]; rfl)) (by omega) (by simp; omega) ?_
               intro v1 w3 hown1 hg1 hat1
               obtain ⟨A1, k1, rfl⟩ := own_shape hown1
               go_must (have hb3 := lim_m1 Hb.out HI.out (((below_alloc wr _).alloc (by simp) _).alloc (by simp; omega) _) hg1)
               have hd1 : w3.cell? ⟨W.heap.size, 1, none⟩ = some (.slice AW k kW) := (by rw [cell_of_row _ _ 1 _ _ _ hb3]; rfl)
               have hd0 : w3.cell? ⟨W.heap.size, 0, none⟩ = some (.slice AI k kI) := (by rw [cell_of_row _ _ 0 _ _ _ hb3]; rfl)
               have hfz1 : w3.frozen? ⟨W.heap.size, 0, none⟩ = false := frozen_of_row w3 W.heap.size 0 _ _ hb3
               have Hb3 := Lib.hid hb3
               clear hb3)
            | (at_builtin
               go_must (refine wpList_push rfl _ _ _ rfl eWants (v := .slice AW k kW) rfl (lim_m2 HW.out hne (((below_alloc wr _).alloc (by simp) _).alloc (by simp; omega) _) hg1) w3.heap.size (.slice none 0 0) rfl (by simp [go_sem]) rfl (by omega) (by have := hg1.size; simp at this; simp; omega) ?_)
               intro v2 w5 hown2 hg2 hat2
               obtain ⟨A2, k2, rfl⟩ := own_shape hown2
               go_must (have hb5 := lim_m3 Hb3.out (lim_m2 HW.out hne (((below_alloc wr _).alloc (by simp) _).alloc (by simp; omega) _) hg1) hg2)
               have he1 : w5.cell? ⟨W.heap.size, 1, none⟩ = some (.slice AW k kW) := (by rw [cell_of_row _ _ 1 _ _ _ hb5]; rfl)
               have hfz2 : w5.frozen? ⟨W.heap.size, 1, none⟩ = false := frozen_of_row w5 W.heap.size 1 _ _ hb5
               clear hb5))
          go_roundw
          case rel =>
            have hp := lim_push (al := false) Hb.out HI.out HW.out hne (((below_alloc wr _).alloc (by simp) _).alloc (by simp; omega) _) (by rw [limItems_succ, List.flatMap_append]; simpa using hown1) hg1 hat1 (by rw [List.replicate_succ']; exact hown2) hg2 hat2
            exact ⟨k + 1, by omega, by go_num, Hbel.out.trans hp.2, hp.1⟩
          case measure => simp [intOf]; omega
      · obtain rfl : k = m := by omega
        obtain ⟨vI, vW, hb, hI, hW, hne⟩ := hat
        have hWw : W.heap.size < wr.heap.size := (Array.getElem?_eq_some_iff.1 hb).1
        have hc0 : wr.cell? ⟨W.heap.size, 0, none⟩ = some vI := by rw [cell_of_row _ _ 0 _ _ _ hb]; rfl
        have hc1 : wr.cell? ⟨W.heap.size, 1, none⟩ = some vW := by rw [cell_of_row _ _ 1 _ _ _ hb]; rfl
        have hc2 : wr.cell? ⟨W.heap.size, 2, none⟩ = some (.int .i64 0) := by rw [cell_of_row _ _ 2 _ _ _ hb]; rfl
        have hri := lim_items hI
        have hrw := lim_wants hW
        obtain ⟨AI, kI, rfl⟩ := hri.shape
        obtain ⟨AW, kW, rfl⟩ := hrw.shape
        have Hri := Lib.hid hri; have Hrw := Lib.hid hrw
        clear hri hrw hI hW hb hne hbel hklt hkle
        obtain ⟨vars, cls, err, he, hcase⟩ := lim_cases al hm1
        have He := Lib.hid he; clear he
        have Hcase := Lib.hid hcase; clear hcase
        go_upto_region 13 with (first
          | (go_at_call 13
             refine (Encode_any _ _ 0 (limItems al k) (limWants k) _ Hri.out Hrw.out (lim_light k)).mono ?_
             intro e w3 hp
             rw [EncodePost, He.out] at hp
             obtain ⟨s, rfl, hs, hb3⟩ := hp
             obtain ⟨As, cs, rfl⟩ := hs.shape
             have hu0 := (hb3.cell (p := ⟨W.heap.size, 0, none⟩) hWw).trans hc0
             have hu1 := (hb3.cell (p := ⟨W.heap.size, 1, none⟩) hWw).trans hc1
             have hu2 := (hb3.cell (p := ⟨W.heap.size, 2, none⟩) hWw).trans hc2
             have hz3 : W.heap.size < w3.heap.size := Nat.lt_of_lt_of_le hWw hb3.size
             have Hrw3 := Lib.hid (RIntsss.stable.up Hrw.out hb3)
             have Hb3 := Lib.hid (Hbel.out.trans (hb3.mono (Nat.le_of_lt hWw)))
             clear hs hb3))
        have hbe := below_alloc w3 (.cells #[.int .i64 vars, .slice As cls.length cs] 34)
        have hq0 : (w3.alloc (.cells #[.int .i64 vars, .slice As cls.length cs] 34)).cell? ⟨w3.heap.size, 0, none⟩ = some (.int .i64 vars) := by simp [go_sem]
        have hq1 : (w3.alloc (.cells #[.int .i64 vars, .slice As cls.length cs] 34)).cell? ⟨w3.heap.size, 1, none⟩ = some (.slice As cls.length cs) := by simp [go_sem]
        have hv0 := (hbe.cell (p := ⟨W.heap.size, 0, none⟩) hz3).trans hu0
        have hv1 := (hbe.cell (p := ⟨W.heap.size, 1, none⟩) hz3).trans hu1
        have hv2 := (hbe.cell (p := ⟨W.heap.size, 2, none⟩) hz3).trans hu2
        have Hrw4 := Lib.hid (RIntsss.stable.up Hrw3.out hbe)
        have Hb4 := Lib.hid (Hb3.out.alloc Hb3.out.size (.cells #[.int .i64 vars, .slice As cls.length cs] 34))
        clear hbe hu0 hu1 hu2 hz3 Hb3 Hrw3 Hrw Hri Hbel hWw hc0 hc1 hc2 He
        generalize w3.alloc (.cells #[.int .i64 vars, .slice As cls.length cs] 34) = w4 at *
        have hc1 := May_any AI (limItems al k).length kI (.slice AW (limWants k).length kW) 0 (limWants k) w4 Hrw4.out
        have hcase := Hcase.out
        obtain ⟨p, hp⟩ : ∃ p, p = k * (k - 1) := ⟨_, rfl⟩
        have hmul : (k : Int) * ((k : Int) - 1) = (p : Int) := by rw [hp, Int.natCast_mul, Int.natCast_sub hm1]; rfl
        rw [← hp] at hcase
        have hpb : k ≤ 1024 → p ≤ 1047552 := fun h => by rw [hp]; exact Nat.mul_le_mul h (by omega : k - 1 ≤ 1023)
        clear Hcase Hrw4 hp
        rcases hcase with ⟨h1, rfl, hm⟩ | ⟨h1, rfl, h2, rfl, h3, hm⟩ | ⟨h1, rfl, h2, rfl, h3, hm⟩ | ⟨h1, rfl, rfl, rfl, h3, hm⟩
        all_goals
          rw [hm] at hc1
          have Hc1 := Lib.hid hc1
          clear hm hc1
        · clear hpb hmul
          go_wp2_with (first
            | (go_at_call 11; refine Hc1.out.mono ?_; rintro e w5 ⟨rfl, hb5⟩)
            | (go_at_call 10; refine (lives_any _).mono ?_; rintro e w6 ⟨rfl, hb6⟩))
          go_ret
          exact ⟨rfl, Hb4.out.trans ((hb5.mono Hb4.out.size).trans (hb6.mono (by have := Hb4.out.size; have := hb5.size; omega)))⟩
        · have hpb' := hpb h1
          clear hpb
          rw [h3] at hq1
          go_wp2_with (first
            | (go_at_call 11; refine Hc1.out.mono ?_; rintro e w5 ⟨rfl, hb5⟩)
            | (go_at_call 10; refine (lives_any _).mono ?_; rintro e w6 ⟨rfl, hb6⟩))
          go_ret
          exact ⟨rfl, Hb4.out.trans ((hb5.mono Hb4.out.size).trans (hb6.mono (by have := Hb4.out.size; have := hb5.size; omega)))⟩
        · have hpb' := hpb h1
          clear hpb
          rw [h3] at hq1
          go_wp2_with (first
            | (go_at_call 10; refine (lives_any _).mono ?_; rintro e w6 ⟨rfl, hb6⟩))
          go_ret
          exact ⟨rfl, Hb4.out.trans (hb6.mono Hb4.out.size)⟩
        · clear hpb hmul
          rw [h3] at hq1
          go_wp2_with (first
            | (go_at_call 10; refine (lives_any _).mono ?_; rintro e w6 ⟨rfl, hb6⟩))
          go_ret
          exact ⟨rfl, Hb4.out.trans (hb6.mono Hb4.out.size)⟩
theorem arg_int {W : World} {v : Value} (h : Arg Try.prog W 3 v) : ∃ n : Int, v = .int .i64 n ∧ -9223372036854775808 ≤ n ∧ n ≤ 9223372036854775807 :=
  h.read1 (reads1_int Try.underlying3) fun cs e => by
    subst e
    obtain ⟨H, enc, base, d, p, hv, ht, _⟩ := h
    obtain ⟨n, e⟩ := WideShapes.okWide_int Try.underlying3 hv
    cases e
theorem arg_bool {W : World} {v : Value} (h : Arg Try.prog W 4 v) : ∃ b : Bool, v = .bool b :=
  h.read1 (reads1_bool Try.underlying4) fun cs e => by
    subst e
    obtain ⟨H, enc, base, d, p, hv, ht, _⟩ := h
    obtain ⟨n, e⟩ := WideShapes.okWide_bool Try.underlying4 hv
    cases e
theorem walk_CnfLimits (W : World) (v0 v1 : Value) (a0 : Arg Try.prog W 3 v0) (a1 : Arg Try.prog W 4 v1) :
    Calls Try.prog 8 #[v0, v1] W fun e W' => e = .returned (.bool true) ∧ Below W.heap.size W W' := by
  obtain ⟨n, rfl, h1, h2⟩ := arg_int a0
  obtain ⟨b, rfl⟩ := arg_bool a1
  exact limits_any W n b h1 h2
end Go.Proofs.Ytlaihjhkghbfkaa
