/- Texts as byte arrays; where the first reference stands, by the library's searches. Plain. -/
import Derived.Test.YtpgdioopkcfjdaaPrD
import Derived.Lib.IndexMore
import Derived.Lib.Bytealg
namespace Go.Proofs.Ytpgdioopkcfjdaa

def bz (l : Bs) : ByteArray := ⟨l.toArray⟩
theorem bz_list (l : Bs) : (bz l).data.toList = l := rfl
theorem bz_size (l : Bs) : (bz l).size = l.length := rfl
theorem bz_of (s : ByteArray) : s = bz s.data.toList := by
  cases s; simp [bz]
theorem bz_inj {a b : Bs} : bz a = bz b ↔ a = b := ⟨fun h => by simpa [bz_list] using congrArg (fun s => s.data.toList) h, fun h => by rw [h]⟩
theorem bz_toList (l : Bs) : (bz l).toList = l := by rw [ByteArray.toList_eq]; rfl
theorem bz_ext (l : Bs) (i j : Nat) : (bz l).extract i j = bz ((l.drop i).take (j - i)) := by
  apply ByteArray.ext
  simp [bz]
theorem bz_append (a b : Bs) : bz a ++ bz b = bz (a ++ b) := by
  apply ByteArray.ext
  simp [bz]
theorem indexByte_shut (s : Bs) : Lib.indexByte s 125 = match findShut s with | none => -1 | some (a, _) => (a.length : Int) := by
  induction s with
  | nil => rfl
  | cons c s ih =>
    unfold Lib.indexByte findShut
    by_cases hc : c = 125
    · simp [hc]
    · rw [if_neg (by simpa using hc), if_neg hc, ih]
      cases findShut s with
      | none => rfl
      | some x => simp only [Option.map_some, beq_iff_eq]; rw [if_neg (by omega)]; simp
theorem index_open (s : Bs) : Lib.index s [36, 123] = match findOpen s with | none => -1 | some (a, _) => (a.length : Int) := by
  induction s with
  | nil => rfl
  | cons c s ih =>
    unfold Lib.index findOpen
    by_cases hc : c = 36 ∧ s.head? = some 123
    · have : List.isPrefixOf [36, 123] (c :: s) = true := by
        obtain ⟨rfl, h⟩ := hc
        cases s with
        | nil => simp at h
        | cons d s => simp at h; subst h; rfl
      rw [if_pos this, if_pos hc]; rfl
    · have : ¬ List.isPrefixOf [36, 123] (c :: s) = true := by
        intro h
        apply hc
        cases s with
        | nil => simp [List.isPrefixOf] at h
        | cons d s => simp [List.isPrefixOf] at h; exact ⟨h.1.symm, by simp [h.2]⟩
      rw [if_neg this, if_neg hc, ih]
      cases findOpen s with
      | none => rfl
      | some x => simp only [Option.map_some, beq_iff_eq]; rw [if_neg (by omega)]; simp
theorem findOpen_len {s a t : Bs} (h : findOpen s = some (a, t)) : a.length + 2 + t.length = s.length := by rw [findOpen_eq h]; simp; omega
theorem findShut_len {s a t : Bs} (h : findShut s = some (a, t)) : a.length + 1 + t.length = s.length := by rw [(findShut_eq h).1]; simp; omega

/-! ### The same, byte by byte -/
def byteL (l : Bs) (k : Nat) : Nat := (l.getD k 0).toNat
theorem byteL_eq {l : Bs} {k : Nat} (h : k < (bz l).size) : (bz l)[k].toNat = byteL l k := by
  have h' : k < l.length := h
  unfold byteL
  rw [List.getD_eq_getElem?_getD, List.getElem?_eq_getElem h']
  rfl
theorem byteL_lt (l : Bs) (k : Nat) : byteL l k ≤ 255 := by unfold byteL; have := (l.getD k 0).toNat_lt; omega
theorem drop_byte {l : Bs} {k : Nat} (h : k < l.length) : l.drop k = (UInt8.ofNat (byteL l k)) :: l.drop (k + 1) := by
  rw [List.drop_eq_getElem_cons h]
  congr 1
  unfold byteL
  rw [List.getD_eq_getElem?_getD, List.getElem?_eq_getElem h]
  simp
theorem ofNat_eq {n m : Nat} (hn : n ≤ 255) (hm : m ≤ 255) : UInt8.ofNat n = UInt8.ofNat m ↔ n = m := by
  constructor
  · intro h
    have := congrArg UInt8.toNat h
    simpa [UInt8.toNat_ofNat', Nat.mod_eq_of_lt (show n < 256 by omega), Nat.mod_eq_of_lt (show m < 256 by omega)] using this
  · rintro rfl; rfl
theorem head_byte {l : Bs} {k : Nat} (h : k < l.length) : (l.drop k).head? = some 123 ↔ byteL l k = 123 := by
  rw [drop_byte h, List.head?_cons, Option.some.injEq]
  exact ofNat_eq (m := 123) (byteL_lt _ _) (by omega)
/-- Up to k there is no opening. -/
def openTo (s : Bs) (k : Nat) : Prop := findOpen s = (findOpen (s.drop k)).map fun x => (s.take k ++ x.1, x.2)
theorem openTo_zero (s : Bs) : openTo s 0 := by
  unfold openTo
  simp only [List.drop_zero, List.take_zero, List.nil_append]
  cases findOpen s <;> rfl
theorem openTo_step {s : Bs} {k : Nat} (h : openTo s k) (hk : k < s.length) (hn : ¬ (byteL s k = 36 ∧ k + 1 < s.length ∧ byteL s (k + 1) = 123)) : openTo s (k + 1) := by
  unfold openTo at *
  rw [h, drop_byte hk]
  have h2 : ¬ (UInt8.ofNat (byteL s k) = 36 ∧ (s.drop (k + 1)).head? = some 123) := by
    rintro ⟨h1, h2⟩
    apply hn
    refine ⟨(ofNat_eq (m := 36) (byteL_lt _ _) (by omega)).1 h1, ?_⟩
    rcases Nat.lt_or_ge (k + 1) s.length with hl | hl
    · exact ⟨hl, (head_byte hl).1 h2⟩
    · rw [List.drop_eq_nil_of_le hl] at h2; simp at h2
  rw [findOpen, if_neg h2]
  have ht : s.take (k + 1) = s.take k ++ [UInt8.ofNat (byteL s k)] := by
    rw [List.take_succ_eq_append_getElem hk]
    congr 2
    unfold byteL
    rw [List.getD_eq_getElem?_getD, List.getElem?_eq_getElem hk]
    simp
  rw [ht]
  cases findOpen (s.drop (k + 1)) <;> simp
theorem openTo_end {s : Bs} {k : Nat} (h : openTo s k) (hk : s.length ≤ k + 1) : findOpen s = none := by
  have h2 : findOpen (s.drop k) = none := by
    rcases Nat.lt_or_ge k s.length with hl | hl
    · rw [drop_byte hl, List.drop_eq_nil_of_le hk]
      unfold findOpen findOpen
      simp
    · rw [List.drop_eq_nil_of_le hl]; rfl
  rw [h, h2]; rfl
theorem openTo_hit {s : Bs} {k : Nat} (h : openTo s k) (hk : k + 1 < s.length) (h1 : byteL s k = 36) (h2 : byteL s (k + 1) = 123) : findOpen s = some (s.take k, s.drop (k + 2)) := by
  have h3 : findOpen (s.drop k) = some ([], s.drop (k + 2)) := by
    rw [drop_byte (by omega : k < s.length), findOpen, if_pos ⟨by rw [h1]; rfl, (head_byte hk).2 h2⟩]
    simp
  rw [h, h3]; simp
/-- From f up to k there is no end. -/
def shutTo (s : Bs) (f k : Nat) : Prop := f ≤ k ∧ findShut (s.drop f) = (findShut (s.drop k)).map fun x => ((s.drop f).take (k - f) ++ x.1, x.2)
theorem shutTo_zero (s : Bs) (f : Nat) : shutTo s f f := by
  refine ⟨Nat.le_refl _, ?_⟩
  simp only [Nat.sub_self, List.take_zero, List.nil_append]
  cases findShut (s.drop f) <;> rfl
theorem shutTo_step {s : Bs} {f k : Nat} (h : shutTo s f k) (hk : k < s.length) (hn : byteL s k ≠ 125) : shutTo s f (k + 1) := by
  obtain ⟨hf, h⟩ := h
  refine ⟨by omega, ?_⟩
  rw [h, drop_byte hk]
  rw [findShut, if_neg (fun e : UInt8.ofNat (byteL s k) = 125 => hn ((ofNat_eq (m := 125) (byteL_lt _ _) (by omega)).1 e))]
  have ht : (s.drop f).take (k + 1 - f) = (s.drop f).take (k - f) ++ [UInt8.ofNat (byteL s k)] := by
    rw [show k + 1 - f = (k - f) + 1 by omega, List.take_succ_eq_append_getElem (by simp; omega)]
    congr 2
    unfold byteL
    rw [List.getD_eq_getElem?_getD, List.getElem?_eq_getElem hk]
    simp [show f + (k - f) = k by omega]
  rw [ht]
  cases findShut (s.drop (k + 1)) <;> simp
theorem shutTo_end {s : Bs} {f k : Nat} (h : shutTo s f k) (hk : s.length ≤ k) : findShut (s.drop f) = none := by
  rw [h.2, List.drop_eq_nil_of_le hk]; rfl
theorem shutTo_hit {s : Bs} {f k : Nat} (h : shutTo s f k) (hk : k < s.length) (h1 : byteL s k = 125) : findShut (s.drop f) = some ((s.drop f).take (k - f), s.drop (k + 1)) := by
  have h3 : findShut (s.drop k) = some ([], s.drop (k + 1)) := by
    rw [drop_byte hk, findShut, if_pos (by rw [h1]; rfl)]
  rw [h.2, h3]; simp
theorem refsP_none {s : Bs} (h : cutP s = none) : refsP s = [] := by
  rw [refsP]; split
  · rfl
  · rename_i h'; rw [h] at h'; cases h'
theorem refsP_some {s a n r : Bs} (h : cutP s = some (a, n, r)) : refsP s = n :: refsP r := by
  rw [refsP]; split
  · rename_i h'; rw [h] at h'; cases h'
  · rename_i h'; rw [h] at h'; cases h'; rfl
theorem refsP_length (s : Bs) : (refsP s).length ≤ s.length := by
  cases h : cutP s with
  | none => rw [refsP_none h]; simp
  | some x =>
    obtain ⟨a, n, r⟩ := x
    rw [refsP_some h]
    have h1 := refsP_length r
    have h2 := cutP_lt h
    simp
    omega
termination_by s.length
decreasing_by exact cutP_lt (by assumption)
theorem cutP_len {s a n r : Bs} (h : cutP s = some (a, n, r)) : a.length + n.length + 3 + r.length = s.length := by rw [cutP_eq h]; simp; omega
theorem cutP_rest {s a n r : Bs} (h : cutP s = some (a, n, r)) : (bz s).extract (a.length + n.length + 3) s.length = bz r := by
  have hl := cutP_len h
  rw [bz_ext, cutP_eq h]
  rw [show (a ++ 36 :: 123 :: (n ++ 125 :: r)) = (a ++ 36 :: 123 :: (n ++ [125])) ++ r by simp]
  rw [List.drop_left' (by simp; omega), List.take_of_length_le (by simp; omega)]
theorem cutP_ahead {s a n r : Bs} (h : cutP s = some (a, n, r)) : (bz s).extract 0 a.length = bz a := by rw [bz_ext, cutP_eq h]; simp
end Go.Proofs.Ytpgdioopkcfjdaa
