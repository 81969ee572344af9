/- A table and its work in memory; the closure that writes. -/
import Derived.Test.YtpgdioopkcfjdaaPrW8
import Derived.Test.YtpgdioopkcfjdaaMapW
import Derived.Test.YtpgdioopkcfjdaaShBk
import Derived.WalkSmall
namespace Go.Proofs.Ytpgdioopkcfjdaa
open Go.RowKit

/-- the panic of a fault -/
def flt (c : Int) (n : Bs) : List PanicEntry := [{ v := .iface 79 (.agg #[.int .i64 c, sv n]), recovered := false }]
/-- what stands at a block stands there still -/
def Kp (w w' : World) (k : Nat) : Prop := ∀ o, w.heap[k]? = some o → w'.heap[k]? = some o
theorem Kp.at_ {w w' : World} {k : Nat} {o : Obj} (h : Kp w w' k) (ho : w.heap[k]? = some o) : w'.heap[k]? = some o := h o ho
theorem Ch.kp {D : Nat → Prop} {w w' : World} (h : Ch D w w') {k : Nat} (hk : ¬ D k) : Kp w w' k := fun _ ho => (h.block k (Array.getElem?_eq_some_iff.1 ho).1 hk).trans ho
theorem own_kp {w w' : World} {base : Nat} {t : TypeId} {sz : Nat} {v : Value} {n : Nat} {xs : List Value} (ho : w.ownsRow base t sz v n xs) (hk : ∀ g, v.ownBlock = some g → Kp w w' g) : w'.ownsRow base t sz v n xs := by
  obtain ⟨h1, ⟨rfl, h2⟩ | ⟨g, cap, cur, rfl, hbg, hh, hr⟩⟩ := ho
  · exact ⟨h1, .inl ⟨rfl, h2⟩⟩
  · exact ⟨h1, .inr ⟨g, cap, cur, rfl, hbg, hk g rfl _ hh, hr⟩⟩
theorem own_obj {w : World} {base : Nat} {t : TypeId} {sz : Nat} {v : Value} {n : Nat} {xs : List Value} (ho : w.ownsRow base t sz v n xs) {g : Nat} (hg : v.ownBlock = some g) : ∃ c, w.heap[g]? = some (.cells c t (0, 0)) := by
  obtain ⟨h1, ⟨rfl, h2⟩ | ⟨g', cap, cur, rfl, hbg, hh, hr⟩⟩ := ho
  · cases hg
  · cases hg; exact ⟨_, hh⟩
theorem MapIs.kp {w w' : World} {r : Nat} {f : Bs → Option Value} (h : MapIs sv w r f) (hk : Kp w w' r) : MapIs sv w' r f := by
  obtain ⟨es, c, l, h1, h2⟩ := h
  exact ⟨es, c, l, hk _ h1, h2⟩
theorem MapIs.obj {w : World} {r : Nat} {f : Bs → Option Value} (h : MapIs sv w r f) : ∃ es c, w.heap[r]? = some (.map es c) := by
  obtain ⟨es, c, l, h1, h2⟩ := h
  exact ⟨es, c, h1⟩
theorem BldF.lt {B b : Nat} {bs : List Value} {w : World} (h : BldF B b bs w) : B ≤ b ∧ b < w.heap.size := by
  rcases h with h | h
  · exact ⟨h.1, h.lt⟩
  · exact ⟨h.1, h.lt⟩
theorem bldAt_kp {B b : Nat} {p : Value} {bs : List Value} {w w' : World} (h : Lib.BuilderAtF 82 5 B b p bs w) (hk : ∀ k c fz, (w.heap[k]? = some (.cells c 5 fz) ∨ w.heap[k]? = some (.cells c 82 fz)) → Kp w w' k) : Lib.BuilderAtF 82 5 B b p bs w' := by
  obtain ⟨hB, v, hb, hown, hne⟩ := h
  refine ⟨hB, v, hk b _ _ (.inr hb) _ hb, ?_, hne⟩
  obtain ⟨h1, h2 | ⟨g, cap, cur, fz, hv, hbg, hg, hr⟩⟩ := hown
  · exact ⟨h1, .inl h2⟩
  · exact ⟨h1, .inr ⟨g, cap, cur, fz, hv, hbg, hk g _ _ (.inl hg) _ hg, hr⟩⟩
theorem BldF.kp {B b : Nat} {bs : List Value} {w w' : World} (h : BldF B b bs w) (hk : ∀ k c fz, (w.heap[k]? = some (.cells c 5 fz) ∨ w.heap[k]? = some (.cells c 82 fz)) → Kp w w' k) : BldF B b bs w' :=
  h.elim (fun h => .inl (bldAt_kp h hk)) (fun h => .inr (bldAt_kp h hk))
theorem BldF.obj {B b : Nat} {bs : List Value} {w : World} (h : BldF B b bs w) : ∃ c, w.heap[b]? = some (.cells c 82 (0, 0)) := by
  rcases h with ⟨_, v, hb, _⟩ | ⟨_, v, hb, _⟩ <;> exact ⟨_, hb⟩
/-- a block whose element type is neither the bytes' nor the builder's is kept by the builder's writers -/
theorem Others.kp {b : Nat} {w w' : World} (ho : Others (some b) w w') {k : Nat} {c : Array Value} {t : TypeId} {fz : Nat × Nat} {cb : Array Value} (hb : w.heap[b]? = some (.cells cb 82 (0, 0))) (hk : w.heap[k]? = some (.cells c t fz)) (h1 : t ≠ 5) (h2 : t ≠ 82) : Kp w w' k := by
  intro o hh
  rw [hk] at hh
  cases hh
  refine ho k _ hk ?_ fun c' fz' e => ?_
  · intro e
    cases e
    rw [hk] at hb
    cases hb
    exact h2 rfl
  · cases e; exact h1 rfl
theorem Others.kpm {b : Nat} {w w' : World} (ho : Others (some b) w w') {k : Nat} {es : Array MapEntry} {c : Nat} {cb : Array Value} (hb : w.heap[b]? = some (.cells cb 82 (0, 0))) (hk : w.heap[k]? = some (.map es c)) : Kp w w' k := by
  intro o hh
  rw [hk] at hh
  cases hh
  refine ho k _ hk ?_ fun c' fz' e => by cases e
  intro e
  cases e
  rw [hk] at hb
  cases hb
structure TabAt (w : World) (B T R Dn : Nat) (lv : Value) (L U done : PL) : Prop where
  hT : w.heap[T]? = some (.cells #[lv, .map (some R), .map (some Dn), .int .i64 (wrap64 (done.length : Nat))] 66 (0, 0))
  raw : MapIs sv w R (fun s => (lookP L s).map sv)
  dn : MapIs sv w Dn (fun s => (lookP done s).map sv)
  own : POwn w B lv U
  lo : B ≤ T ∧ B ≤ R ∧ B ≤ Dn
  ne : R ≠ Dn
  small : ∀ p ∈ done, p.2.length ≤ 4096
structure WkAt (w : World) (B Wk T : Nat) (wv : Value) (way : List Bs) : Prop where
  hW : w.heap[Wk]? = some (.cells #[.pointer (some ⟨T, 0, none⟩), wv] 71 (0, 0))
  own : w.ownsRow B 9 1 wv way.length (way.map sv)
  lo : B ≤ Wk
section
variable {w w' : World} {B T R Dn Wk : Nat} {lv wv : Value} {L U done : PL} {way : List Bs}
theorem TabAt.kp (h : TabAt w B T R Dn lv L U done) (k1 : Kp w w' T) (k2 : Kp w w' R) (k3 : Kp w w' Dn) (k4 : ∀ g, lv.ownBlock = some g → Kp w w' g) : TabAt w' B T R Dn lv L U done :=
  ⟨k1 _ h.hT, h.raw.kp k2, h.dn.kp k3, own_kp h.own k4, h.lo, h.ne, h.small⟩
theorem WkAt.kp (h : WkAt w B Wk T wv way) (k1 : Kp w w' Wk) (k2 : ∀ g, wv.ownBlock = some g → Kp w w' g) : WkAt w' B Wk T wv way := ⟨k1 _ h.hW, own_kp h.own k2, h.lo⟩
theorem TabAt.others {b : Nat} {cb : Array Value} (h : TabAt w B T R Dn lv L U done) (ho : Others (some b) w w') (hb : w.heap[b]? = some (.cells cb 82 (0, 0))) : TabAt w' B T R Dn lv L U done := by
  obtain ⟨es, c, hR⟩ := h.raw.obj
  obtain ⟨es', c', hD⟩ := h.dn.obj
  refine h.kp (ho.kp hb h.hT (by decide) (by decide)) (ho.kpm hb hR) (ho.kpm hb hD) fun g hg => ?_
  obtain ⟨c, hc⟩ := own_obj h.own hg
  exact ho.kp hb hc (by decide) (by decide)
theorem WkAt.others {b : Nat} {cb : Array Value} (h : WkAt w B Wk T wv way) (ho : Others (some b) w w') (hb : w.heap[b]? = some (.cells cb 82 (0, 0))) : WkAt w' B Wk T wv way := by
  refine h.kp (ho.kp hb h.hW (by decide) (by decide)) fun g hg => ?_
  obtain ⟨c, hc⟩ := own_obj h.own hg
  exact ho.kp hb hc (by decide) (by decide)
theorem kp_new (hb : Below w.heap.size w w') (k : Nat) : Kp w w' k := fun _ ho => (hb.block k (Array.getElem?_eq_some_iff.1 ho).1).trans ho
theorem TabAt.new (h : TabAt w B T R Dn lv L U done) (hb : Below w.heap.size w w') : TabAt w' B T R Dn lv L U done := h.kp (kp_new hb _) (kp_new hb _) (kp_new hb _) fun _ _ => kp_new hb _
theorem WkAt.new (h : WkAt w B Wk T wv way) (hb : Below w.heap.size w w') : WkAt w' B Wk T wv way := h.kp (kp_new hb _) fun _ _ => kp_new hb _
end
theorem cells_of_str (acc s : Bs) : Lib.byteCells acc ++ Lib.strCells (bz s) = Lib.byteCells (acc ++ s) := by rw [Lib.strCells_eq, bz_list]; simp [Lib.byteCells]
theorem Len_any (B b : Nat) (acc : Bs) (w : World) (h : BldF B b (Lib.byteCells acc) w) : Calls Try.prog 44 #[.pointer (some ⟨b, 0, none⟩)] w fun e w' => e = .returned (.int .i64 (acc.length : Nat)) ∧ w' = w := by
  obtain ⟨v, p, hb, ho⟩ : ∃ v p, w.heap[b]? = some (.cells #[p, v] 82 (0, 0)) ∧ w.ownsRowF B 5 1 v acc.length (Lib.byteCells acc) := by
    rcases h with ⟨_, v, hb, ho, _⟩ | ⟨_, v, hb, ho, _⟩
    · exact ⟨v, _, hb, by rwa [Lib.byteCells_length] at ho⟩
    · exact ⟨v, _, hb, by rwa [Lib.byteCells_length] at ho⟩
  have d1 : w.cell? ⟨b, 1, none⟩ = some v := by rw [Lib.cell_of_heap hb]; rfl
  obtain ⟨ao, cap, rfl⟩ : ∃ ao cap, v = .slice ao acc.length cap := by
    rcases ho.2 with ⟨rfl, h0⟩ | ⟨g, cap, cur, fz, rfl, _⟩
    · exact ⟨none, 0, by rw [h0]⟩
    · exact ⟨_, _, rfl⟩
  clear h hb ho
  go_enter Try.func44, Try.ntmps44
  go_wp2
  go_ret
  exact ⟨rfl, rfl⟩
theorem put_any (B b q : Nat) (acc me s : Bs) (w : World) (h : BldF B b (Lib.byteCells acc) w) (hBw : B ≤ w.heap.size) (hq : w.heap[q]? = some (.cells #[sv me] 9 (0, 0))) (hl : acc.length ≤ 1000000) (hs : s.length ≤ 1000000) :
    Calls Try.prog 42 #[sv s, .pointer (some ⟨b, 0, none⟩), .pointer (some ⟨q, 0, none⟩)] w fun e w' =>
      e = (if 4096 < (acc ++ s).length then .panicked (flt 2 me) else .returned (.tuple #[])) ∧ BldF B b (Lib.byteCells (acc ++ s)) w' ∧ Below B w w' ∧ Others (some b) w w' := by
  have H1 := Lib.hid (WriteString_k B b (Lib.byteCells acc) (bz s) w h (by rw [Lib.byteCells_length, bz_size]; omega) hBw)
  rw [cells_of_str] at H1
  obtain ⟨cb, hb⟩ := h.obj
  have Hb := Lib.hid hb
  have Hq := Lib.hid hq
  clear h hb hq
  generalize acc ++ s = X at *
  by_cases hg : 4096 < X.length
  · rw [if_pos hg]
    go_enter Try.func42, Try.ntmps42
    go_wp2_with (first
      | (go_at_call 43; with_reducible refine H1.out.mono ?_; rintro e w1 ⟨rfl, h1, h2, h3⟩; (have H2 := Lib.hid h1; have H3 := Lib.hid h2; have H4 := Lib.hid h3; have hc := Lib.cell_of_heap ((Others.kp h3 Hb.out Hq.out (by decide) (by decide)).at_ Hq.out) 0; clear h1 h2 h3))
      | (go_at_call 44; with_reducible refine (Len_any B b X w1 H2.out).mono ?_; rintro e w2 ⟨rfl, rfl⟩))
    exact ⟨rfl, rfl, H2.out, H3.out, H4.out⟩
  · rw [if_neg hg]
    have hg : X.length ≤ 4096 := by omega
    go_enter Try.func42, Try.ntmps42
    go_wp2_with (first
      | (go_at_call 43; with_reducible refine H1.out.mono ?_; rintro e w1 ⟨rfl, h1, h2, h3⟩; (have H2 := Lib.hid h1; have H3 := Lib.hid h2; have H4 := Lib.hid h3; clear h1 h2 h3))
      | (go_at_call 44; with_reducible refine (Len_any B b X w1 H2.out).mono ?_; rintro e w2 ⟨rfl, rfl⟩))
    go_end0
    exact ⟨rfl, H2.out, H3.out, H4.out⟩
end Go.Proofs.Ytpgdioopkcfjdaa
