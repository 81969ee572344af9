/- chars: the reference's answer of a reference is the program's. Plain. -/
import Derived.Test.YtnkbeaipgadphaaChD4
namespace Go.Proofs.Ytnkbeaipgadphaa
open C01

def errK (i : Int) : Int := if i = 0 then 0 else if i = 1 then 13 else 12
def cv (r : ByteArray × Int × Int) : ByteArray × Int × Int := (r.1, r.2.1, errK r.2.2)
def fiveL (k : Nat) : List UInt8 := (five.getD k ⟨#[]⟩).data.toList
theorem wW_list {k : Nat} (hk : k < 5) : (wW k).data.toList = 38 :: (fiveL k ++ [59]) := by
  match k, hk with
  | 0, _ => rfl
  | 1, _ => rfl
  | 2, _ => rfl
  | 3, _ => rfl
  | 4, _ => rfl
theorem wW_len {k : Nat} (hk : k < 5) : ((wW k).size : Int) = ((fiveL k).length : Int) + 2 := by
  match k, hk with
  | 0, _ => rfl
  | 1, _ => rfl
  | 2, _ => rfl
  | 3, _ => rfl
  | 4, _ => rfl
theorem fiveL_low {k : Nat} (hk : k < 5) : ∀ x ∈ fiveL k, lowB (x.toNat : Int) = true := by
  match k, hk with
  | 0, _ => decide +kernel
  | 1, _ => decide +kernel
  | 2, _ => decide +kernel
  | 3, _ => decide +kernel
  | 4, _ => decide +kernel
theorem fiveL_ne {k : Nat} (hk : k < 5) : ∃ c r, fiveL k = c :: r ∧ c ≠ 35 := by
  match k, hk with
  | 0, _ => exact ⟨_, _, rfl, by decide⟩
  | 1, _ => exact ⟨_, _, rfl, by decide⟩
  | 2, _ => exact ⟨_, _, rfl, by decide⟩
  | 3, _ => exact ⟨_, _, rfl, by decide⟩
  | 4, _ => exact ⟨_, _, rfl, by decide⟩
theorem named_five {k : Nat} (hk : k < 5) : namedS ⟨(fiveL k).toArray⟩ = wT k ∧ wT k ≠ ⟨#[]⟩ := by
  match k, hk with
  | 0, _ => decide +kernel
  | 1, _ => decide +kernel
  | 2, _ => decide +kernel
  | 3, _ => decide +kernel
  | 4, _ => decide +kernel
theorem named_is {l : List UInt8} (h : namedS ⟨l.toArray⟩ ≠ ⟨#[]⟩) : ∃ k, k < 5 ∧ l = fiveL k := by
  unfold namedS at h
  have hl : ∀ m : List UInt8, (⟨l.toArray⟩ : ByteArray) = ⟨m.toArray⟩ → l = m := fun m e => by
    have := congrArg (fun s : ByteArray => s.data.toList) e
    simpa using this
  by_cases h0 : (⟨l.toArray⟩ : ByteArray) = ⟨#[108, 116]⟩
  · exact ⟨0, by omega, hl _ h0⟩
  rw [if_neg h0] at h
  by_cases h0 : (⟨l.toArray⟩ : ByteArray) = ⟨#[103, 116]⟩
  · exact ⟨1, by omega, hl _ h0⟩
  rw [if_neg h0] at h
  by_cases h0 : (⟨l.toArray⟩ : ByteArray) = ⟨#[97, 109, 112]⟩
  · exact ⟨2, by omega, hl _ h0⟩
  rw [if_neg h0] at h
  by_cases h0 : (⟨l.toArray⟩ : ByteArray) = ⟨#[113, 117, 111, 116]⟩
  · exact ⟨3, by omega, hl _ h0⟩
  rw [if_neg h0] at h
  by_cases h0 : (⟨l.toArray⟩ : ByteArray) = ⟨#[97, 112, 111, 115]⟩
  · exact ⟨4, by omega, hl _ h0⟩
  rw [if_neg h0] at h
  exact absurd rfl h
theorem spanN_low {w r : List UInt8} (h : ∀ x ∈ w, lowB (x.toNat : Int) = true) : spanN lowB (w ++ r) = w.length + spanN lowB r := by
  induction w with
  | nil => simp
  | cons a w ih =>
    have ha := h a (by simp)
    have := ih fun x hx => h x (by simp [hx])
    unfold spanN at this ⊢
    rw [List.cons_append, List.takeWhile_cons, if_pos ha, List.length_cons, this, List.length_cons]
    omega
theorem q1 {w l : List UInt8} (hw : ∀ x ∈ w, lowB (x.toNat : Int) = true) (h : (w ++ [59]) <+: l) : spanN lowB l = w.length ∧ l.take w.length = w ∧ l[w.length]? = some 59 := by
  obtain ⟨r, rfl⟩ := h
  rw [List.append_assoc]
  refine ⟨?_, by simp, by simp⟩
  rw [spanN_low hw]
  have : spanN lowB ([59] ++ r) = 0 := by unfold spanN; rw [List.cons_append, List.takeWhile_cons, if_neg (by decide)]; rfl
  omega
theorem q2 {w l : List UInt8} {n : Nat} (h1 : l.take n = w) (h2 : l[n]? = some 59) : (w ++ [59]) <+: l := by
  obtain ⟨hn, e⟩ := List.getElem?_eq_some_iff.1 h2
  refine ⟨l.drop (n + 1), ?_⟩
  rw [← h1, ← e, ← List.take_succ_eq_append_getElem hn, List.take_append_drop]
theorem q3 {w l : List UInt8} (h : l <+: w ++ [59]) : l <+: w ∨ l = w ++ [59] := by
  rcases Nat.lt_or_ge w.length l.length with h1 | h1
  · right
    exact h.eq_of_length (by have := h.length_le; simp at this ⊢; omega)
  · left
    exact List.prefix_of_prefix_length_le h (List.prefix_append _ _) h1
theorem low_all {w l : List UInt8} (hw : ∀ x ∈ w, lowB (x.toNat : Int) = true) (h : l <+: w) : spanN lowB l = l.length := by
  have := spanN_low (w := l) (r := []) fun x hx => hw x (h.subset hx)
  rw [List.append_nil] at this
  rw [this]
  rfl
theorem pre_iff {s p : ByteArray} : pre s p = true ↔ p.data.toList <+: s.data.toList := by
  unfold pre Lib.hasPrefix
  exact List.isPrefixOf_iff_prefix
theorem bytes_of {s : ByteArray} {l : List UInt8} (h : s.data.toList = l) : s = ⟨l.toArray⟩ := by
  cases s with
  | mk d => congr 1; rw [← h]
theorem pre_cons {s : ByteArray} {x : UInt8} {l : List UInt8} (hs : s.data.toList = x :: l) {k : Nat} (hk : k < 5) : (pre s (wW k) = true ↔ x = 38 ∧ (fiveL k ++ [59]) <+: l) ∧ (pre (wW k) s = true ↔ x = 38 ∧ l <+: fiveL k ++ [59]) := by
  rw [pre_iff, pre_iff, hs, wW_list hk, List.cons_prefix_cons, List.cons_prefix_cons]
  exact ⟨⟨fun h => ⟨h.1.symm, h.2⟩, fun h => ⟨h.1.symm, h.2⟩⟩, Iff.rfl⟩
theorem wordF_none {s : ByteArray} {k : Nat} (h1 : ¬ pre s (wW k) = true) (h2 : ¬ pre (wW k) s = true) : wordF s k = none := by
  unfold wordF
  rw [if_neg h1, if_neg h2]
theorem rest_none {s : ByteArray} (h : ¬ pre s ⟨#[38, 35]⟩ = true) : restR2 s = (⟨#[]⟩, 0, 2) := by
  unfold restR2
  rw [if_neg, if_neg, if_neg h]
  · rintro rfl; exact h (by decide)
  · rintro rfl; exact h (by decide)
theorem pre2 {s : ByteArray} {x y : UInt8} {l : List UInt8} (hs : s.data.toList = x :: y :: l) : pre s ⟨#[38, 35]⟩ = true ↔ x = 38 ∧ y = 35 := by
  rw [pre_iff, hs]
  show [38, 35] <+: x :: y :: l ↔ _
  rw [List.cons_prefix_cons, List.cons_prefix_cons]
  constructor
  · rintro ⟨h1, h2, _⟩; exact ⟨h1.symm, h2.symm⟩
  · rintro ⟨h1, h2⟩; exact ⟨h1.symm, h2.symm, List.nil_prefix⟩
theorem byte0 {s : ByteArray} {x : UInt8} {l : List UInt8} (hs : s.data.toList = x :: l) : byteN s 0 = x.toNat := by unfold byteN; rw [hs]; rfl
theorem tail1 {s : ByteArray} {x : UInt8} {l : List UInt8} (hs : s.data.toList = x :: l) : (s.extract 1 s.size).data.toList = l := by
  rw [ByteArray.data_extract, Array.toList_extract, List.extract_eq_take_drop, hs, List.drop_succ_cons, List.drop_zero]
  apply List.take_of_length_le
  have : s.size = s.data.toList.length := (Array.length_toList).symm
  rw [this, hs]
  simp
theorem size_of {s : ByteArray} {l : List UInt8} (hs : s.data.toList = l) : s.size = l.length := by rw [← hs, Array.length_toList]; rfl
end Go.Proofs.Ytnkbeaipgadphaa
