/- chars: what the reference answers of a reference. Plain. -/
import Derived.Test.YtnkbeaipgadphaaChD3
import Derived.Test.YtnkbeaipgadphaaChW7
import Derived.Test.YtnkbeaipgadphaaPlain
namespace Go.Proofs.Ytnkbeaipgadphaa
open C01

def wordsW : List ByteArray := [⟨#[38, 108, 116, 59]⟩, ⟨#[38, 103, 116, 59]⟩, ⟨#[38, 97, 109, 112, 59]⟩, ⟨#[38, 113, 117, 111, 116, 59]⟩, ⟨#[38, 97, 112, 111, 115, 59]⟩]
def wordsT : List ByteArray := [⟨#[60]⟩, ⟨#[62]⟩, ⟨#[38]⟩, ⟨#[34]⟩, ⟨#[39]⟩]
def wW (k : Nat) : ByteArray := wordsW.getD k ⟨#[]⟩
def wT (k : Nat) : ByteArray := wordsT.getD k ⟨#[]⟩
def pre (s p : ByteArray) : Bool := Lib.hasPrefix s.data.toList p.data.toList
def wordF (s : ByteArray) (k : Nat) : Option (ByteArray × Int × Int) := if pre s (wW k) = true then some (wT k, ((wW k).size : Int), 0) else if pre (wW k) s = true then some (⟨#[]⟩, 0, 1) else none
def digN (s : ByteArray) (f : Nat) (base : Int) : Nat := spanN (digB base) (s.extract f s.size).data.toList
def numR2 (s : ByteArray) (f : Nat) (base : Int) : ByteArray × Int × Int :=
  if 8 < digN s f base then (⟨#[]⟩, 0, 2) else if f + digN s f base = s.size then (⟨#[]⟩, 0, 1)
  else if byteN s (f + digN s f base) ≠ 59 then (⟨#[]⟩, 0, 2) else if digN s f base = 0 then (⟨#[]⟩, 0, 2)
  else if letterOk (numK base (s.extract f s.size) (digN s f base)) = true then (letterS (numK base (s.extract f s.size) (digN s f base)), ((f + digN s f base : Nat) : Int) + 1, 0) else (⟨#[]⟩, 0, 2)
def restR2 (s : ByteArray) : ByteArray × Int × Int :=
  if s = ⟨#[38, 35]⟩ then (⟨#[]⟩, 0, 1) else if s = ⟨#[38, 35, 120]⟩ then (⟨#[]⟩, 0, 1) else if pre s ⟨#[38, 35]⟩ = true then (if pre s ⟨#[38, 35, 120]⟩ = true then numR2 s 3 16 else numR2 s 2 10) else (⟨#[]⟩, 0, 2)
def refR2 (s : ByteArray) : ByteArray × Int × Int := (firstN (wordF s) 5).getD (restR2 s)
theorem numK_nine {base : Int} {s : ByteArray} {n : Nat} (hb : base = 10 ∨ base = 16) (hn : n ≤ 9) (h : ∀ i, i < n → digB base (byteN s i : Nat) = true) : 0 ≤ numK base s n ∧ numK base s n < 68719476736 := by
  obtain ⟨h1, h2⟩ := numK_bound hb n h
  refine ⟨h1, Int.lt_of_lt_of_le h2 ?_⟩
  have : (16 : Nat) ^ n ≤ 16 ^ 9 := Nat.pow_le_pow_right (by omega) hn
  have e : ((16 ^ n : Nat) : Int) = (16 : Int) ^ n := by push_cast; rfl
  have e8 : (16 : Nat) ^ 9 = 68719476736 := by decide
  rw [← e]
  omega
theorem tail_byte {s : ByteArray} {f i : Nat} (h : f + i < s.size) : byteN (s.extract f s.size) i = byteN s (f + i) := by
  unfold byteN
  congr 1
  rw [ByteArray.data_extract, Array.toList_extract, List.extract_eq_take_drop, List.getD_eq_getElem?_getD, List.getD_eq_getElem?_getD, List.getElem?_take, if_pos (by omega), List.getElem?_drop]
theorem digN_le (s : ByteArray) (f : Nat) (base : Int) (hf : f ≤ s.size) : f + digN s f base ≤ s.size := by
  have := spanN_le (digB base) (s.extract f s.size).data.toList
  rw [Array.length_toList] at this
  have h2 : (s.extract f s.size).data.size = s.size - f := by show (s.extract f s.size).size = _; rw [ByteArray.size_extract]; omega
  unfold digN
  omega
theorem digN_all {s : ByteArray} {f : Nat} {base : Int} {i : Nat} (h : i < digN s f base) : digB base (byteN (s.extract f s.size) i : Nat) = true := spanN_all h
theorem digN_out {s : ByteArray} {f : Nat} {base : Int} (h : f + digN s f base < s.size) : digB base (byteN s (f + digN s f base) : Nat) = false := by
  rw [← tail_byte h]
  refine spanN_out ?_
  rw [Array.length_toList]
  have h2 : (s.extract f s.size).data.size = s.size - f := by show (s.extract f s.size).size = _; rw [ByteArray.size_extract]; omega
  have h3 : digN s f base = spanN (digB base) (s.extract f s.size).data.toList := rfl
  omega
end Go.Proofs.Ytnkbeaipgadphaa
