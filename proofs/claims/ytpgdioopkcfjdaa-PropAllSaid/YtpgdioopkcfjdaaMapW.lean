/- Map operations as steps of a walk; keys that are texts. -/
import Derived.Test.YtpgdioopkcfjdaaMapL
import Derived.Test.YtpgdioopkcfjdaaPrP
namespace Go.Proofs.Ytpgdioopkcfjdaa
open Go.RowKit

section
variable {κ : Type} [DecidableEq κ] {P : Program} {kt vt T : TypeId} {enc : κ → Value} {ops : Array Oper} {rest : List Oper} {o : Oper} {a : Act} {Q : Exit → Act → World → Prop} {w : World} {r : Nat} {f : κ → Option Value}
theorem wpList_lookup_is (hgd : o.guard = none) (m x : Operand) (c : Bool) (ho : o.op = .lookup T m x c) (K : KeyLaw P kt enc) (hT : P.underlying T = some (.map kt vt)) {z : Value} (hz : ∀ w, (zeroValue vt).run P w = .ok z w)
    (hm : a.eval m = .map (some r)) (k : κ) (hx : a.eval x = enc k) (h : MapIs enc w r f)
    (hk : wpList P ops Q rest (a.put o.dst (if c then .tuple #[(f k).getD z, .bool (f k).isSome] else (f k).getD z)) w) : wpList P ops Q (o :: rest) a w := by
  refine wpList_plain hgd fun _ hK => ?_
  unfold Oper.wp execOp
  simp only [ho, hm, hx]
  simp [run_lookup_is K hT hz h, Oper.upon]
  exact hK _ _ hk
theorem wpList_mapUpdate_is (hgd : o.guard = none) (m x y : Operand) (ho : o.op = .mapUpdate T m x y) (K : KeyLaw P kt enc) (hT : P.underlying T = some (.map kt vt))
    (hm : a.eval m = .map (some r)) (k : κ) (hx : a.eval x = enc k) (v : Value) (hy : a.eval y = v) (h : MapIs enc w r f)
    (hk : ∀ w', MapIs enc w' r (updF f k v) → w.grownBy w' (some r) → w'.heap.size = w.heap.size → wpList P ops Q rest (a.put o.dst undef) w') : wpList P ops Q (o :: rest) a w := by
  obtain ⟨w', h1, h2, h3, h4⟩ := run_mapUpdate_is (P := P) K hT h k v
  refine wpList_plain hgd fun _ hK => ?_
  unfold Oper.wp execOp
  simp only [ho, hm, hx, hy]
  simp [h1, Oper.upon]
  exact hK _ _ (hk w' h2 h3 h4)
theorem wpList_mapEntry_is (hgd : o.guard = none) (m x : Operand) (ho : o.op = .mapEntry T m x) (K : KeyLaw P kt enc) (hT : P.underlying T = some (.map kt vt)) {z : Value} (hz : ∀ w, (zeroValue vt).run P w = .ok z w)
    (hm : a.eval m = .map (some r)) (k : κ) (hx : a.eval x = enc k) (h : MapIs enc w r f)
    (hk : ∀ w' (s : Nat), MapStamp enc w' r (updF f k ((f k).getD z)) k s → w.grownBy w' (some r) → w'.heap.size = w.heap.size → wpList P ops Q rest (a.put o.dst (.tuple #[(f k).getD z, .int .i64 s])) w') : wpList P ops Q (o :: rest) a w := by
  obtain ⟨w', s, h1, h2, h3, h4⟩ := run_mapEntry_is (P := P) K hT hz h k
  refine wpList_plain hgd fun _ hK => ?_
  unfold Oper.wp execOp
  simp only [ho, hm, hx]
  simp [h1, Oper.upon, goInt]
  exact hK _ _ (hk w' s h2 h3 h4)
theorem wpList_entryStore_is (hgd : o.guard = none) (m x y : Operand) (ho : o.op = .entryStore T m x y) (hm : a.eval m = .map (some r)) {k : κ} {s : Nat} (hx : a.eval x = .int .i64 s) (v : Value) (hy : a.eval y = v) (h : MapStamp enc w r f k s)
    (hk : ∀ w', MapIs enc w' r (updF f k v) → w.grownBy w' (some r) → w'.heap.size = w.heap.size → wpList P ops Q rest (a.put o.dst undef) w') : wpList P ops Q (o :: rest) a w := by
  obtain ⟨w', h1, h2, h3, h4⟩ := run_entryStore_is (P := P) (T := T) h v
  refine wpList_plain hgd fun _ hK => ?_
  unfold Oper.wp execOp
  simp only [ho, hm, hx, hy]
  rw [goInt] at h1
  simp [h1, Oper.upon]
  exact hK _ _ (hk w' h2 h3 h4)
end

theorem checkKey_string {P : Program} {t : TypeId} (h : P.underlying t = some .string) (b : Bool) (n : Nat) (s : ByteArray) (w : World) : (Instr.checkKey b (n + 1) t (.string s)).run P w = .ok () w := by
  simp [Instr.checkKey, run_underlying h]
theorem eqStr {P : Program} {t : TypeId} (h : P.underlying t = some .string) (n : Nat) (a b : ByteArray) (w : World) : (Op.equalIn (n + 1) t (.string a) (.string b)).run P w = .ok (decide (a = b)) w := by
  rw [run_equalIn_string w n t a b h, ba_beq]
theorem strKey : KeyLaw Try.prog 9 sv where
  check b k w := checkKey_string Try.underlying9 b 9999 _ w
  eq a b w := by
    unfold Op.equal Op.maxDepth
    rw [eqStr Try.underlying9]
    rw [show decide (bz a = bz b) = decide (a = b) from decide_eq_decide.2 bz_inj]
  bits a := by
    have h : ∀ x : ByteArray, (x == x) = true := fun x => by rw [beq_toListBytes]; simp
    simp [Instr.sameBits, h]
  kind := ⟨_, Try.underlying9, fun a b => .inr (by
    show some _ = some _
    congr 1
    have : (bz a == bz b) = decide (a = b) := by rw [beq_toListBytes, bz_beq]; by_cases h : a = b <;> simp [h]
    exact this)⟩
theorem zeroStr (w : World) : (zeroValue 9).run Try.prog w = .ok (sv []) w := by kernel_rfl
end Go.Proofs.Ytpgdioopkcfjdaa
