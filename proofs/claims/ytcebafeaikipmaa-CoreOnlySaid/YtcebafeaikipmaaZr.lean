/- stable, SortStableFunc: the learned clauses in some order. / forget: the half of the learned clauses that was of least use. -/
import Derived.LaidEqlPtr
import Derived.Test.YtcebafeaikipmaaQSaT5
import Derived.Test.YtcebafeaikipmaaZg
namespace Go.Proofs.Ytcebafeaikipmaa.S15
open Go.RowKit

set_option maxRecDepth 100000 in
set_option maxHeartbeats 8000000 in
theorem stable_any {w0 : World} {B S : Nat} {ad : List Nat} {vl : Rl → Value} {s : St} {g n c : Nat} (hv : vl .ln = .slice (some ⟨g, 0, none⟩) n c) (hn : n = s.learned.length) (hn9 : n ≤ 1000000000) (hln : ∀ d ∈ s.learned, d < s.cls.length) {w : World} {l : List Nat} (h : Srt w0 B S ad vl s w l) :
    Calls Try.prog 69 #[.slice (some ⟨g, 0, none⟩) n c, .int .i64 n, .func (.func 67) #[] #[]] w fun e w' => e = .returned (.tuple #[]) ∧ ∃ l', Srt w0 B S ad vl s w' l' := by
  have H := Lib.hid h
  have HI := Lib.hid (fun (a b : Nat) (hab : a ≤ b) (hb : b ≤ n) (w : World) (l : List Nat) (h : Srt w0 B S ad vl s w l) => insertion_any hv hn hn9 hln hab hb h)
  have HM := Lib.hid (fun (a m b : Nat) (ham : a < m) (hmb : m < b) (hb : b ≤ n) (w : World) (l : List Nat) (h : Srt w0 B S ad vl s w l) => symMerge_any hv hn hn9 hln (b - a) a m b (Nat.le_refl _) ham hmb hb w l h)
  clear h hv hn hln
  go_enter Try.func69, Try.ntmps69
  go_wp2_with fail
  go_loopw [7, 8] (fun av bv wr => ∃ (a : Nat) (l' : List Nat), av = .int .i64 a ∧ bv = .int .i64 ((a + 20 : Nat) : Int) ∧ a ≤ n ∧ Hid (Srt w0 B S ad vl s wr l')) (fun av _ _ => n - (intOf av).toNat)
  case atStart => exact ⟨0, l, rfl, rfl, Nat.zero_le _, H⟩
  case round =>
    obtain ⟨w1, hw1⟩ : ∃ w1 : World, w1 = wr := ⟨_, rfl⟩
    rw [← hw1] at hrel ⊢
    clear hw1
    obtain ⟨a, l1, rfl, rfl, han, HS⟩ := hrel
    obtain ⟨b, hb⟩ : ∃ b, b = a + 20 := ⟨_, rfl⟩
    rw [← hb]
    have hb1 : b ≤ a + 20 := by omega
    have hb2 : a + 20 ≤ b := by omega
    clear hb
    rcases Nat.lt_or_ge n b with hlt | hge
    · have z1 : decide (b ≤ n) = false := decide_eq_false (by omega)
      go_wp2_with (go_at_call 70; with_reducible refine (HI.out a n han (Nat.le_refl _) _ _ HS.out).mono ?_; rintro e w2 ⟨rfl, l2, h2⟩; (have HS2 := Lib.hid h2; clear h2))
      go_loopg [6] (n + 1) (fun gk sv wr => ∃ (z : Nat) (l' : List Nat), sv = .int .i64 z ∧ 20 ≤ z ∧ z ≤ 2000000100 ∧ Hid (gk = n + 21 - z ∧ Srt w0 B S ad vl s wr l'))
      case atStart => exact ⟨20, l2, rfl, Nat.le_refl _, by omega, Lib.hid ⟨by omega, HS2.out⟩⟩
      case round =>
        clear HS HS2
        obtain ⟨w3, hw3⟩ : ∃ w3 : World, w3 = wr := ⟨_, rfl⟩
        rw [← hw3] at hrel ⊢
        clear hw3
        obtain ⟨z, l3, rfl, hz1, hz2, HS3⟩ := hrel
        rcases Nat.lt_or_ge z n with hzn | hzn
        · have z2 : decide (z < n) = true := decide_eq_true hzn
          go_wp2_with fail
          go_loopg [7, 8] (n + 1) (fun gk av bv wr => ∃ (a : Nat) (l' : List Nat), av = .int .i64 a ∧ bv = .int .i64 ((a + 2 * z : Nat) : Int) ∧ a ≤ n ∧ Hid (gk = n + 1 - a ∧ Srt w0 B S ad vl s wr l'))
          case atStart => exact ⟨0, l3, rfl, by go_num, Nat.zero_le _, Lib.hid ⟨rfl, HS3.out.2⟩⟩
          case round =>
            obtain ⟨w4, hw4⟩ : ∃ w4 : World, w4 = wr := ⟨_, rfl⟩
            rw [← hw4] at hrel ⊢
            clear hw4
            obtain ⟨a, l4, rfl, rfl, han, HS4⟩ := hrel
            obtain ⟨b, hb⟩ : ∃ b, b = a + 2 * z := ⟨_, rfl⟩
            rw [← hb]
            have hb1 : b ≤ a + 2 * z := by omega
            have hb2 : a + 2 * z ≤ b := by omega
            clear hb
            rcases Nat.lt_or_ge n b with hlt | hge
            · have z3 : decide (b ≤ n) = false := decide_eq_false (by omega)
              obtain ⟨y, hy⟩ : ∃ y, y = a + z := ⟨_, rfl⟩
              have ey : (a : Int) + (z : Int) = (y : Int) := by omega
              have hy1 : y ≤ a + z := by omega
              have hy2 : a + z ≤ y := by omega
              clear hy
              rcases Nat.lt_or_ge y n with hyn | hyn
              · have z4 : decide (y < n) = true := decide_eq_true hyn
                go_wp2_with (go_at_call 71; with_reducible refine (HM.out a y n (by omega) hyn (Nat.le_refl _) _ _ HS4.out.2).mono ?_; rintro e w5 ⟨rfl, l5, h5⟩; (have HS5 := Lib.hid h5; clear h5))
                go_roundg (n + 21 - 2 * z)
                case rel => exact ⟨2 * z, l5, by go_num, by omega, by omega, Lib.hid ⟨rfl, HS5.out⟩⟩
                case measure => have := HS3.out.1; omega
              · have z4 : decide (y < n) = false := decide_eq_false (by omega)
                go_wp2_with fail
                go_roundg (n + 21 - 2 * z)
                case rel => exact ⟨2 * z, l4, by go_num, by omega, by omega, Lib.hid ⟨rfl, HS4.out.2⟩⟩
                case measure => have := HS3.out.1; omega
            · have z3 : decide (b ≤ n) = true := decide_eq_true hge
              obtain ⟨y, hy⟩ : ∃ y, y = a + z := ⟨_, rfl⟩
              have ey : (a : Int) + (z : Int) = (y : Int) := by omega
              have hy1 : y ≤ a + z := by omega
              have hy2 : a + z ≤ y := by omega
              clear hy
              go_wp2_with (go_at_call 71; with_reducible refine (HM.out a y b (by omega) (by omega) hge _ _ HS4.out.2).mono ?_; rintro e w5 ⟨rfl, l5, h5⟩; (have HS5 := Lib.hid h5; clear h5))
              go_roundg (n + 1 - b)
              case rel => exact ⟨b, l5, rfl, by go_num, hge, Lib.hid ⟨rfl, HS5.out⟩⟩
              case measure => have := HS4.out.1; omega
        · have z2 : decide (z < n) = false := decide_eq_false (by omega)
          go_wp2_with fail
          go_end0
          exact ⟨rfl, l3, HS3.out.2⟩
    · have z1 : decide (b ≤ n) = true := decide_eq_true hge
      go_wp2_with (go_at_call 70; with_reducible refine (HI.out a b (by omega) hge _ _ HS.out).mono ?_; rintro e w2 ⟨rfl, l2, h2⟩; (have HS2 := Lib.hid h2; clear h2))
      go_roundw
      case rel => exact ⟨b, l2, rfl, by go_num, hge, HS2⟩
      case measure => simp [intOf]; omega
set_option maxRecDepth 100000 in
set_option maxHeartbeats 8000000 in
theorem sort_any {w0 : World} {B S : Nat} {ad : List Nat} {vl : Rl → Value} {s : St} {g n c : Nat} (hv : vl .ln = .slice (some ⟨g, 0, none⟩) n c) (hn : n = s.learned.length) (hn9 : n ≤ 1000000000) (hln : ∀ d ∈ s.learned, d < s.cls.length) {w : World} {l : List Nat} (h : Srt w0 B S ad vl s w l) :
    Calls Try.prog 66 #[.slice (some ⟨g, 0, none⟩) n c, .func (.func 67) #[] #[]] w fun e w' => e = .returned (.tuple #[]) ∧ ∃ l', Srt w0 B S ad vl s w' l' := by
  have HS := Lib.hid (stable_any hv hn hn9 hln h)
  clear h hv hn hln
  go_enter Try.func66, Try.ntmps66
  go_wp2_with (go_at_call 69; with_reducible refine HS.out.mono ?_; rintro e w2 ⟨rfl, l2, h2⟩)
  go_end0
  exact ⟨rfl, l2, h2⟩
end Go.Proofs.Ytcebafeaikipmaa.S15

namespace Go.Proofs.Ytcebafeaikipmaa.S15
open Go.RowKit

section
variable {P : Program} (w : World)
theorem neq_nil_ptr {tp te : TypeId} (a : Addr) (hp : P.underlying tp = some (.pointer te)) : (binOp .neq tp (.pointer none) (.pointer (some a))).run P w = .ok (.bool true) w := by
  have h : ∀ d : Nat, (Op.equalIn (d + 1) tp (.pointer none) (.pointer (some a))).run P w = .ok false w := fun d => by
    simp [Op.equalIn, run_underlying hp]
  simp only [binOp]
  simp [Op.equal, Op.maxDepth, h 9999]
theorem neq_ptr_same {tp te : TypeId} {j : TypeInfo} (a : Addr) (hp : P.underlying tp = some (.pointer te)) (hte : P.info? te = some j) :
    (binOp .neq tp (.pointer (some a)) (.pointer (some a))).run P w = .ok (.bool false) w := by
  have h : ∀ d : Nat, (Op.equalIn (d + 1) tp (.pointer (some a)) (.pointer (some a))).run P w = .ok true w := fun d => by
    simp [Op.equalIn, run_underlying hp, sizeOf, typeInfo, hte, run_sameAddr_same]
  simp only [binOp]
  simp [Op.equal, Op.maxDepth, h 9999]
theorem neq_ptr_other {tp te : TypeId} {j : TypeInfo} {a b : Addr} {ca cb : Array Value} {ta tb : TypeId} (hp : P.underlying tp = some (.pointer te)) (hte : P.info? te = some j) (hsz : j.size ≠ 0)
    (hne : a ≠ b) (ha : w.heap[a.block]? = some (.cells ca ta (0, 0))) (hb : w.heap[b.block]? = some (.cells cb tb (0, 0))) :
    (binOp .neq tp (.pointer (some a)) (.pointer (some b))).run P w = .ok (.bool true) w := by
  have h : ∀ d : Nat, (Op.equalIn (d + 1) tp (.pointer (some a)) (.pointer (some b))).run P w = .ok false w := fun d => by
    simp [Op.equalIn, run_underlying hp, sizeOf, typeInfo, hte, hsz, run_sameAddr_other w hne ha hb]
  simp only [binOp]
  simp [Op.equal, Op.maxDepth, h 9999]
end
theorem clause_info : ∃ j, Try.prog.info? 98 = some j ∧ j.size ≠ 0 := by
  have h : (Try.prog.info? 98).map (·.size) = some 3 := by kernel_rfl
  cases e : Try.prog.info? 98 with
  | none => rw [e] at h; cases h
  | some j =>
    rw [e] at h
    have h2 : j.size = 3 := Option.some.inj h
    exact ⟨j, rfl, by rw [h2]; decide⟩
theorem neq_clause {w : World} {B S : Nat} {ad : List Nat} {vl : Rl → Value} {s : St} (h : SAt w B S ad vl s) {c : Nat} (hc : c < s.cls.length) (r : Option Nat) (hr : ∀ d, r = some d → d < s.cls.length) :
    ∃ p : Option Addr, oC ad r = .pointer p ∧ (binOp .neq 96 (.pointer p) (.pointer (some ⟨ad.getD c 0, 0, none⟩))).run Try.prog w = .ok (.bool (decide (r ≠ some c))) w := by
  obtain ⟨j, hj, hj2⟩ := clause_info
  cases r with
  | none => exact ⟨none, rfl, by rw [neq_nil_ptr w _ Try.underlying96]; rfl⟩
  | some d =>
    refine ⟨some ⟨ad.getD d 0, 0, none⟩, rfl, ?_⟩
    by_cases e : d = c
    · subst e
      rw [neq_ptr_same w _ Try.underlying96 hj]
      simp
    · have hd := hr d rfl
      rw [neq_ptr_other w Try.underlying96 hj hj2 (fun e2 => e (h.inj d c hd hc (by injection e2))) (h.cl d hd) (h.cl c hc)]
      simp [e]
theorem forgS_learned (half : Nat) (x : List Nat) : ∀ (l : List Nat) (i : Nat) (s : St) (left : List Nat), forgS half l i { s with learned := x } left = ({ (forgS half l i s left).1 with learned := x }, (forgS half l i s left).2)
  | [], i, s, left => rfl
  | c :: r, i, s, left => by
    rw [forgS_cons, forgS_cons]
    have e : forgT half i c { s with learned := x } = forgT half i c s := rfl
    rw [e]
    split
    · exact forgS_learned half x r (i + 1) (setC s c { s.cl c with gone := true }) left
    · exact forgS_learned half x r (i + 1) (setC s c { s.cl c with used := (s.cl c).used / 2 }) (left ++ [c])
/-- how far the forgetting is -/
structure Fgt (s0 : St) (l : List Nat) (half : Nat) (i : Nat) (t : St) (left : List Nat) : Prop where
  eq : forgS half l 0 s0 [] = forgS half (l.drop i) i t left
  fg : Fg s0 t (l.take i)
  ln : t.learned = s0.learned
  len : left.length ≤ i
theorem Fgt.start (s0 : St) (l : List Nat) (half : Nat) : Fgt s0 l half 0 s0 [] := ⟨rfl, Fg.refl _ _, rfl, Nat.le_refl _⟩
theorem Fgt.next {s0 t : St} {l left : List Nat} {half i : Nat} (h : Fgt s0 l half i t left) (hi : i < l.length) :
    if forgT half i l[i] t then Fgt s0 l half (i + 1) (setC t l[i] { t.cl l[i] with gone := true }) left else Fgt s0 l half (i + 1) (setC t l[i] { t.cl l[i] with used := (t.cl l[i]).used / 2 }) (left ++ [l[i]]) := by
  have e := h.eq
  rw [List.drop_eq_getElem_cons hi, forgS_cons] at e
  split
  · rename_i hc
    rw [if_pos hc] at e
    exact ⟨e, by rw [List.take_succ_eq_append_getElem hi]; exact h.fg.trans (fg_gone t _), h.ln, by have := h.len; omega⟩
  · rename_i hc
    rw [if_neg hc] at e
    exact ⟨e, by rw [List.take_succ_eq_append_getElem hi]; exact h.fg.trans (fg_half t _), h.ln, by have := h.len; simp; omega⟩
theorem Stp.putLn {w w' : World} {B S Q : Nat} {ad : List Nat} {vl : Rl → Value} {t : TypeId} {v : Value} {xs : List Value} (h : Stp w B S ad vl w' ad vl) (hS : B ≤ S) (hQ : w.heap.size ≤ Q) (ho : OwnG w' Q t v xs) : Stp w B S ad vl (w'.setCell ⟨S, 2, none⟩ v) ad (updV vl .ln v) :=
  ⟨h.below.setCell (p := ⟨S, 2, none⟩) hS v, fun k hk hn => (Below.heap_setCell w' ⟨S, 2, none⟩ v k (fun e => hn (.inl e))).trans (h.ch k hk hn), fun k hk => by
    rcases hk with e | ⟨r, hr⟩ | e
    · exact .inl (.inl e)
    · by_cases er : r = .ln
      · subst er
        rw [updV_same] at hr
        exact .inr (Nat.le_trans hQ (ho.lt k hr).1)
      · rw [updV_ne _ _ er] at hr
        exact .inl (.inr (.inl ⟨r, hr⟩))
    · exact .inl (.inr (.inr e))⟩
set_option maxRecDepth 100000 in
set_option maxHeartbeats 8000000 in
theorem forget_any (B S : Nat) : ForgetOk B S := by
  intro w ad vl s h hshp hrb hln h200 h9
  have hln2 : ∀ c ∈ s.learned, c < s.cls.length := fun c hc => (hln c hc).1
  obtain ⟨g, c, hv, -, -, hnc, -⟩ := (h.rows .ln).form (by simp [cont]; omega)
  have hl1 : (cont s ad vl .ln).length = s.learned.length := by simp [cont]
  rw [hl1] at hv hnc
  obtain ⟨n, hn⟩ : ∃ n, n = s.learned.length := ⟨_, rfl⟩
  rw [← hn] at hv hnc h200 h9
  have h0 : Srt w B S ad vl s w s.learned := ⟨h, Stp.refl _ _ _ _ _, List.Perm.refl _⟩
  have HS := Lib.hid (sort_any hv hn h9 hln2 h0)
  have c2 := h.cellS (k := 2) (v := vl .ln) rfl
  rw [hv] at c2
  have Hv := Lib.hid hv
  have Hn := Lib.hid hn
  have Hln := Lib.hid hln
  have Hrb := Lib.hid hrb
  have Hshp := Lib.hid hshp
  have hsm := hshp.sm
  have hcf := cf44
  clear h hrb hshp hln hln2 hv hn hl1 h0
  go_enter Try.func55, Try.ntmps55
  go_upto_region 1 with (go_at_call 66; with_reducible refine HS.out.mono ?_; rintro e w1 ⟨rfl, l, h1⟩; (have HS1 := Lib.hid h1; clear h1))
  clear c2
  have c2 := HS1.out.1.cellS (k := 2) (v := vl .ln) rfl
  rw [Hv.out] at c2
  have hhalf : (n : Int) / 2 = ((n / 2 : Nat) : Int) := by omega
  obtain ⟨half, hhf⟩ : ∃ hf, hf = n / 2 := ⟨_, rfl⟩
  rw [← hhf] at hhalf
  have Hhf := Lib.hid hhf
  clear hhf
  obtain ⟨s0, hs0⟩ : ∃ s0 : St, s0 = { s with learned := l } := ⟨_, rfl⟩
  have HA1 := Lib.hid (show SAt w1 B S ad vl s0 by rw [hs0]; exact HS1.out.1)
  have Hs0 := Lib.hid hs0
  have hln0 : l.length = n := by rw [Hn.out]; exact HS1.out.len
  have Hln0 := Lib.hid hln0
  have HQ := Lib.hid HA1.out.loQ
  obtain ⟨Q, hQ⟩ : ∃ Q, Q = w1.heap.size := ⟨_, rfl⟩
  rw [← hQ] at HQ
  have HQe := Lib.hid hQ
  have hBQ : B ≤ Q := by rw [hQ]; exact HA1.out.size
  clear hs0 hln0 hQ
  go_wp2_with fail
  clear hhalf
  go_loopw [23, 3] (fun iv lv wr => ∃ (i : Nat) (t : St) (left : List Nat), i ≤ n ∧ iv = .int .i64 i ∧ Hid (Fgt s0 l half i t left) ∧ Hid (SAt wr B S ad vl t) ∧ Hid (Stp w1 B S ad vl wr ad vl) ∧ Hid (OwnG wr Q 96 lv (left.map (pC ad)))) (fun iv _ _ => n - (intOf iv).toNat)
  case atStart => exact ⟨0, s0, [], Nat.zero_le _, rfl, Lib.hid (Fgt.start _ _ _), HA1, Lib.hid (Stp.refl _ _ _ _ _), Lib.hid (OwnG.nil _ _ _)⟩
  case round =>
    clear c2
    obtain ⟨w2, hw2⟩ : ∃ w2 : World, w2 = wr := ⟨_, rfl⟩
    rw [← hw2] at hrel ⊢
    clear hw2
    obtain ⟨i, t, left, hin, rfl, HF, HA, PA, HO⟩ := hrel
    obtain ⟨lv, hlv⟩ : ∃ lv, lv = u3 := ⟨_, rfl⟩
    rw [← hlv] at HO ⊢
    clear hlv
    rcases Nat.lt_or_ge i n with hi | hi
    · have hil : i < l.length := by rw [Hln0.out]; exact hi
      have hmem : l[i] ∈ s.learned := HS1.out.2.2.mem_iff.1 (List.getElem_mem hil)
      obtain ⟨q1, q2, q3, q4, q5⟩ := Hln.out l[i] hmem
      have hnx := HF.out.next hil
      have hfg := HF.out.fg
      have e0 : s0.cls = s.cls := by rw [Hs0.out]
      have e1 : s0.vars = s.vars := by rw [Hs0.out]
      have e2 : s0.reason = s.reason := by rw [Hs0.out]
      have hcl0 : ∀ d, s0.cl d = s.cl d := fun d => by unfold St.cl; rw [e0]
      obtain ⟨cc, hcc⟩ : ∃ cc, cc = l[i] := ⟨_, rfl⟩
      rw [← hcc] at q1 q2 q3 q4 q5 hnx
      have hct : cc < t.cls.length := by rw [hfg.len, e0]; exact q1
      have hlt : (t.cl cc).lits = (s.cl cc).lits := by rw [hfg.lits, hcl0]
      have hus := hfg.used cc (by rw [hcl0]; exact q2)
      rw [hcl0] at hus
      obtain ⟨L, hL⟩ : ∃ L, L = (s.cl cc).lits := ⟨_, rfl⟩
      rw [← hL] at hlt q4 q5
      obtain ⟨x0, hx0⟩ : ∃ x, L[0]? = some x := ⟨_, List.getElem?_eq_getElem (by omega)⟩
      have hx0g : L.getD 0 0 = x0 := by rw [List.getD_eq_getElem?_getD, hx0]; rfl
      have hx0m : x0 ∈ L := List.mem_of_getElem? hx0
      have hxo := q5 x0 hx0m
      obtain ⟨m, hm⟩ : ∃ m, m = L.length := ⟨_, rfl⟩
      have hrl : t.reason.length = s.vars + 1 := by rw [hfg.reason, e2]; exact Hshp.out.re
      have hvr : x0 / 2 < t.reason.length := by rw [hrl]; have := hxo.2; omega
      obtain ⟨gr, cr, hre, cS6, cre, hrc⟩ := HA.out.rdRe hvr
      obtain ⟨gl, cl, hli, -, -, hlc, -⟩ := (HA.out.rows (.li cc)).form (by simp [cont, hlt]; omega)
      have hll : (cont t ad vl (.li cc)).length = m := by simp [cont, hlt, hm]
      rw [hll] at hli hlc
      have d0 := HA.out.cellC (k := 0) hct (v := vl (.li cc)) rfl
      rw [hli] at d0
      have d1 := HA.out.cellC (k := 1) hct (v := .int .i64 (t.cl cc).used) rfl
      have d2 := HA.out.cellC (k := 2) hct (v := .bool (t.cl cc).gone) rfl
      have g1 := HA.out.frozenC hct 1
      have g2 := HA.out.frozenC hct 2
      have dl := HA.out.rdLi hli (j := 0) (x := x0) (by rw [hlt]; exact hx0)
      have di : w2.cell? ⟨g, i, none⟩ = some (.pointer (some ⟨ad.getD cc 0, 0, none⟩)) := by
        have e := HA.out.rows .ln
        rw [Hv.out] at e
        have hl := HF.out.ln
        rw [Hs0.out] at hl
        exact e.cell (by simp only [cont, List.getElem?_map, hl, List.getElem?_eq_getElem hil, Option.map_some]; rw [hcc]; rfl)
      have hsu := HA.out.setUsed hct ((t.cl cc).used / 2)
      have hsg := HA.out.setGone hct true
      obtain ⟨r, hr⟩ : ∃ r, r = t.reason.getD (x0 / 2) none := ⟨_, rfl⟩
      have hft : forgT half i cc t = decide (i < half ∧ 2 < m ∧ r ≠ some cc) := by
        unfold forgT; rw [hlt, hx0g, hr, hm]
      have hrbt : ∀ d, r = some d → d < t.cls.length := fun d hd => by
        rw [hfg.len, e0]
        refine Hrb.out d ?_
        rw [hr, hfg.reason, e2] at hd
        rw [← hd, List.getD_eq_getElem?_getD, List.getElem?_eq_getElem (by rw [← e2, ← hfg.reason]; exact hvr)]
        exact List.getElem_mem _
      rw [← hr] at cre
      obtain ⟨rp, hrp, hneq⟩ := neq_clause HA.out hct r hrbt
      rw [hrp] at cre
      obtain ⟨pc, hpc⟩ : ∃ pc, pc = ad.getD cc 0 := ⟨_, rfl⟩
      obtain ⟨u, hu⟩ : ∃ u, u = (t.cl cc).used := ⟨_, rfl⟩
      rw [← hpc] at d0 d1 d2 g1 g2 di hsu hsg hneq
      rw [← hu] at d1 hsu hus
      have HVar := Lib.hid (fun w => variable_any x0 w (by have := hxo.2; omega))
      rw [hft] at hnx
      have Hnx := Lib.hid hnx
      have Hsu := Lib.hid hsu
      have Hsg := Lib.hid hsg
      have Hpc := Lib.hid (show pC ad cc = .pointer (some ⟨pc, 0, none⟩) by rw [hpc]; rfl)
      have Hu := Lib.hid hu
      have hm2 : 2 ≤ m := by omega
      obtain ⟨vv, hvv⟩ : ∃ v, v = x0 / 2 := ⟨_, rfl⟩
      rw [← hvv] at HVar cre hvr
      obtain ⟨rl, hrl9⟩ : ∃ n, n = t.reason.length := ⟨_, rfl⟩
      rw [← hrl9] at cS6 hrc hvr
      obtain ⟨hu0, hu1⟩ := hus
      have hub : u ≤ 4000000000000000000 := by omega
      obtain ⟨hmg, hgk⟩ : (∃ x, x = (t.cl cc).gone) ∧ True := ⟨⟨_, rfl⟩, trivial⟩
      clear hnx hfg e0 e1 e2 hcl0 hcc hct hlt hL hx0 hx0g hx0m hxo hm hrl hre hli hll hsu hsg hr hft hrbt hrp hpc hu hvv hrl9 hmem q1 q2 q3 q5 hu1 q4 hmg hgk hil
      by_cases hb : i < half ∧ 2 < m
      · obtain ⟨hb1, hb2⟩ := hb
        have z1 : decide (i < half) = true := decide_eq_true hb1
        have z2 : decide (2 < m) = true := decide_eq_true hb2
        obtain ⟨bz, hbz⟩ : ∃ bz, bz = decide (r ≠ some cc) := ⟨_, rfl⟩
        rw [← hbz] at hneq
        cases bz with
        | true =>
          have hfr : decide (i < half ∧ 2 < m ∧ r ≠ some cc) = true := decide_eq_true ⟨hb1, hb2, of_decide_eq_true hbz.symm⟩
          have Hnx2 := Lib.hid (show Fgt s0 l half (i + 1) (setC t cc { t.cl cc with gone := true }) left by have := Hnx.out; rw [if_pos hfr] at this; exact this)
          clear hbz hfr
          go_wp2_with (go_at_call 61; with_reducible refine (HVar.out _).mono ?_; rintro e w2 ⟨rfl, rfl⟩)
          go_roundw
          case rel => exact ⟨i + 1, _, left, by omega, by go_num, Hnx2, Lib.hid Hsg.out.1, Lib.hid (PA.out.trans Hsg.out.2), Lib.hid (Hsg.out.2.outLo HQ.out HO.out)⟩
          case measure => simp [intOf]; omega
        | false =>
          have hfr : decide (i < half ∧ 2 < m ∧ r ≠ some cc) = false := decide_eq_false (fun h => by have := of_decide_eq_false hbz.symm; exact this h.2.2)
          clear hbz
          have Hnx2 := Lib.hid (show Fgt s0 l half (i + 1) (setC t cc { t.cl cc with used := u / 2 }) (left ++ [cc]) by have := Hnx.out; rw [hfr] at this; rw [Hu.out]; exact this)
          have Hl3 := Lib.hid (HF.out.len)
          have hox := Hsu.out.2.outLo HQ.out HO.out
          have HA3 := Lib.hid (show SAt (w2.setCell ⟨pc, 1, none⟩ (.int .i64 (u / 2))) B S ad vl (setC t cc { t.cl cc with used := u / 2 }) from Hsu.out.1)
          have PA3 := Lib.hid (PA.out.trans (show Stp w2 B S ad vl (w2.setCell ⟨pc, 1, none⟩ (.int .i64 (u / 2))) ad vl from Hsu.out.2))
          obtain ⟨w3, hw3⟩ : ∃ w3, w3 = w2.setCell ⟨pc, 1, none⟩ (.int .i64 (u / 2)) := ⟨_, rfl⟩
          have HO3 := Lib.hid (show OwnG w3 Q 96 lv (left.map (pC ad)) by rw [hw3]; exact hox)
          rw [← hw3] at HA3 PA3
          have Hw3 := Lib.hid hw3
          have hQ3 : Q ≤ w3.heap.size := by have := PA3.out.below.size; rw [HQe.out]; exact this
          clear hfr hw3 hox
          go_upto_region 10 with (go_at_call 61; with_reducible refine (HVar.out _).mono ?_; rintro e w2 ⟨rfl, rfl⟩)
          rw [← Hw3.out]
          clear d0 d1 d2 g1 g2 di dl cS6 cre
          obtain ⟨Al, cl2, hlve⟩ := HO3.out.shape
          rw [List.length_map] at hlve
          obtain ⟨kl, hkl⟩ : ∃ kl, kl = left.length := ⟨_, rfl⟩
          have hkl9 : kl ≤ 1000000000 := by have := Hl3.out; omega
          rw [← hkl] at hlve
          subst hlve
          have Hkl := Lib.hid hkl
          clear hkl
          go_wp2_with (at_builtin; go_loud (refine wpList_pushG rfl _ _ _ rfl eCls (v := .slice Al kl cl2) rfl (HO3.out.kp fun _ _ => kp_new (below_alloc _ _) _) w3.heap.size (.pointer (some ⟨pc, 0, none⟩)) rfl (one_new w3 _ _) rfl (by rw [List.length_map, ← Hkl.out]; omega) (by simp; omega) ?_; intro v' w4 hown hgr hnn; (have HO4 := Lib.hid hown; have HG4 := Lib.hid hgr; clear hown hgr hnn)))
          have hb34 : Below Q w3 w4 := ((Below.refl Q w3).alloc hQ3 _).grown HG4.out (by simp; omega) fun x hx => (HO3.out.lt x hx).1
          have HA4 := Lib.hid (HA3.out.keepLo HQ.out hb34)
          have PA4 := Lib.hid (PA3.out.outNew (by rw [← HQe.out]; exact hb34) (by rw [← HQe.out]; exact hBQ))
          have HO5 := Lib.hid (show OwnG w4 Q 96 v' ((left ++ [cc]).map (pC ad)) by rw [List.map_append, List.map_singleton, Hpc.out]; exact HO4.out)
          clear hb34
          go_roundw
          case rel => exact ⟨i + 1, _, left ++ [cc], by omega, by go_num, Hnx2, HA4, PA4, HO5⟩
          case measure => simp [intOf]; omega

      · rcases Nat.lt_or_ge i half with hb1 | hb1
        · have z1 : decide (i < half) = true := decide_eq_true hb1
          have z2 : decide (2 < m) = false := decide_eq_false (fun h => hb ⟨hb1, h⟩)
          have hb2 : ¬ 2 < m := fun h => hb ⟨hb1, h⟩
          have hfr : decide (i < half ∧ 2 < m ∧ r ≠ some cc) = false := decide_eq_false (fun h => hb ⟨h.1, h.2.1⟩)
          clear hb
          have Hnx2 := Lib.hid (show Fgt s0 l half (i + 1) (setC t cc { t.cl cc with used := u / 2 }) (left ++ [cc]) by have := Hnx.out; rw [hfr] at this; rw [Hu.out]; exact this)
          have Hl3 := Lib.hid (HF.out.len)
          have hox := Hsu.out.2.outLo HQ.out HO.out
          have HA3 := Lib.hid (show SAt (w2.setCell ⟨pc, 1, none⟩ (.int .i64 (u / 2))) B S ad vl (setC t cc { t.cl cc with used := u / 2 }) from Hsu.out.1)
          have PA3 := Lib.hid (PA.out.trans (show Stp w2 B S ad vl (w2.setCell ⟨pc, 1, none⟩ (.int .i64 (u / 2))) ad vl from Hsu.out.2))
          obtain ⟨w3, hw3⟩ : ∃ w3, w3 = w2.setCell ⟨pc, 1, none⟩ (.int .i64 (u / 2)) := ⟨_, rfl⟩
          have HO3 := Lib.hid (show OwnG w3 Q 96 lv (left.map (pC ad)) by rw [hw3]; exact hox)
          rw [← hw3] at HA3 PA3
          have Hw3 := Lib.hid hw3
          have hQ3 : Q ≤ w3.heap.size := by have := PA3.out.below.size; rw [HQe.out]; exact this
          clear hfr hw3 hox
          go_upto_region 10 with (go_at_call 61; with_reducible refine (HVar.out _).mono ?_; rintro e w2 ⟨rfl, rfl⟩)
          rw [← Hw3.out]
          clear d0 d1 d2 g1 g2 di dl cS6 cre
          obtain ⟨Al, cl2, hlve⟩ := HO3.out.shape
          rw [List.length_map] at hlve
          obtain ⟨kl, hkl⟩ : ∃ kl, kl = left.length := ⟨_, rfl⟩
          have hkl9 : kl ≤ 1000000000 := by have := Hl3.out; omega
          rw [← hkl] at hlve
          subst hlve
          have Hkl := Lib.hid hkl
          clear hkl
          go_wp2_with (at_builtin; go_loud (refine wpList_pushG rfl _ _ _ rfl eCls (v := .slice Al kl cl2) rfl (HO3.out.kp fun _ _ => kp_new (below_alloc _ _) _) w3.heap.size (.pointer (some ⟨pc, 0, none⟩)) rfl (one_new w3 _ _) rfl (by rw [List.length_map, ← Hkl.out]; omega) (by simp; omega) ?_; intro v' w4 hown hgr hnn; (have HO4 := Lib.hid hown; have HG4 := Lib.hid hgr; clear hown hgr hnn)))
          have hb34 : Below Q w3 w4 := ((Below.refl Q w3).alloc hQ3 _).grown HG4.out (by simp; omega) fun x hx => (HO3.out.lt x hx).1
          have HA4 := Lib.hid (HA3.out.keepLo HQ.out hb34)
          have PA4 := Lib.hid (PA3.out.outNew (by rw [← HQe.out]; exact hb34) (by rw [← HQe.out]; exact hBQ))
          have HO5 := Lib.hid (show OwnG w4 Q 96 v' ((left ++ [cc]).map (pC ad)) by rw [List.map_append, List.map_singleton, Hpc.out]; exact HO4.out)
          clear hb34
          go_roundw
          case rel => exact ⟨i + 1, _, left ++ [cc], by omega, by go_num, Hnx2, HA4, PA4, HO5⟩
          case measure => simp [intOf]; omega

        · have z1 : decide (i < half) = false := decide_eq_false (by omega)
          have hfr : decide (i < half ∧ 2 < m ∧ r ≠ some cc) = false := decide_eq_false (fun h => hb ⟨h.1, h.2.1⟩)
          clear hb
          have Hnx2 := Lib.hid (show Fgt s0 l half (i + 1) (setC t cc { t.cl cc with used := u / 2 }) (left ++ [cc]) by have := Hnx.out; rw [hfr] at this; rw [Hu.out]; exact this)
          have Hl3 := Lib.hid (HF.out.len)
          have hox := Hsu.out.2.outLo HQ.out HO.out
          have HA3 := Lib.hid (show SAt (w2.setCell ⟨pc, 1, none⟩ (.int .i64 (u / 2))) B S ad vl (setC t cc { t.cl cc with used := u / 2 }) from Hsu.out.1)
          have PA3 := Lib.hid (PA.out.trans (show Stp w2 B S ad vl (w2.setCell ⟨pc, 1, none⟩ (.int .i64 (u / 2))) ad vl from Hsu.out.2))
          obtain ⟨w3, hw3⟩ : ∃ w3, w3 = w2.setCell ⟨pc, 1, none⟩ (.int .i64 (u / 2)) := ⟨_, rfl⟩
          have HO3 := Lib.hid (show OwnG w3 Q 96 lv (left.map (pC ad)) by rw [hw3]; exact hox)
          rw [← hw3] at HA3 PA3
          have Hw3 := Lib.hid hw3
          have hQ3 : Q ≤ w3.heap.size := by have := PA3.out.below.size; rw [HQe.out]; exact this
          clear hfr hw3 hox
          go_upto_region 10 with (go_at_call 61; with_reducible refine (HVar.out _).mono ?_; rintro e w2 ⟨rfl, rfl⟩)
          rw [← Hw3.out]
          clear d0 d1 d2 g1 g2 di dl cS6 cre
          obtain ⟨Al, cl2, hlve⟩ := HO3.out.shape
          rw [List.length_map] at hlve
          obtain ⟨kl, hkl⟩ : ∃ kl, kl = left.length := ⟨_, rfl⟩
          have hkl9 : kl ≤ 1000000000 := by have := Hl3.out; omega
          rw [← hkl] at hlve
          subst hlve
          have Hkl := Lib.hid hkl
          clear hkl
          go_wp2_with (at_builtin; go_loud (refine wpList_pushG rfl _ _ _ rfl eCls (v := .slice Al kl cl2) rfl (HO3.out.kp fun _ _ => kp_new (below_alloc _ _) _) w3.heap.size (.pointer (some ⟨pc, 0, none⟩)) rfl (one_new w3 _ _) rfl (by rw [List.length_map, ← Hkl.out]; omega) (by simp; omega) ?_; intro v' w4 hown hgr hnn; (have HO4 := Lib.hid hown; have HG4 := Lib.hid hgr; clear hown hgr hnn)))
          have hb34 : Below Q w3 w4 := ((Below.refl Q w3).alloc hQ3 _).grown HG4.out (by simp; omega) fun x hx => (HO3.out.lt x hx).1
          have HA4 := Lib.hid (HA3.out.keepLo HQ.out hb34)
          have PA4 := Lib.hid (PA3.out.outNew (by rw [← HQe.out]; exact hb34) (by rw [← HQe.out]; exact hBQ))
          have HO5 := Lib.hid (show OwnG w4 Q 96 v' ((left ++ [cc]).map (pC ad)) by rw [List.map_append, List.map_singleton, Hpc.out]; exact HO4.out)
          clear hb34
          go_roundw
          case rel => exact ⟨i + 1, _, left ++ [cc], by omega, by go_num, Hnx2, HA4, PA4, HO5⟩
          case measure => simp [intOf]; omega

    · obtain rfl : i = n := by omega
      have hfin := HF.out.eq
      rw [← Hln0.out, List.drop_length, forgS] at hfin
      have hfs : forgetS s l = { t with learned := left } := by
        unfold forgetS
        have e := forgS_learned (l.length / 2) l l 0 s []
        rw [← Hs0.out] at e
        rw [Hln0.out, ← Hhf.out] at e ⊢
        rw [hfin] at e
        cases hq : forgS half l 0 s [] with
        | mk a b =>
          rw [hq] at e
          simp only [Prod.mk.injEq] at e
          obtain ⟨e1, e2⟩ := e
          simp only
          rw [e1, e2]
      have hset := HA.out.setFree .ln (v := lv) 2 { t with learned := left } (own_base HO.out hBQ) (fun g hg e => by have := (HO.out.lt g hg).1; have := HQ.out g e; omega) (fun r hr => by cases r <;> first | rfl | exact absurd rfl hr | (simp [cont, updV]; done)) rfl rfl (fun _ _ => rfl)
      have hstp := HS1.out.2.1.trans (PA.out.putLn HA.out.loS (Nat.le_of_eq HQe.out.symm) HO.out)
      have hperm := HS1.out.2.2
      have e2 := HA.out.cellS (k := 2) (v := vl .ln) rfl
      have f2 := HA.out.frozenS 2
      obtain ⟨Al, cl2, hlve⟩ := HO.out.shape
      have Hset := Lib.hid hset
      have Hstp := Lib.hid hstp
      have Hfs := Lib.hid hfs
      have Hperm := Lib.hid hperm
      obtain ⟨kl, hkl⟩ : ∃ kl, kl = (left.map (pC ad)).length := ⟨_, rfl⟩
      rw [← hkl] at hlve
      clear hset hstp hfin hfs hkl hperm
      subst hlve
      go_wp2_with fail
      go_end0
      exact ⟨rfl, l, _, Hperm.out, by rw [Hfs.out]; exact Hset.out, Hstp.out⟩
end Go.Proofs.Ytcebafeaikipmaa.S15
