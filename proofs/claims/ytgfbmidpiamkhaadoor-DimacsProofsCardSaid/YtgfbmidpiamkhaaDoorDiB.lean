/- Texts as byte arrays. Plain. -/
import Derived.Test.YtgfbmidpiamkhaaDoorBase
import Derived.Lib.IndexMore
import Derived.Lib.Bytealg
namespace Go.Proofs.YtgfbmidpiamkhaaDoor
open Go.RowKit

abbrev Bs := List UInt8
def bz (l : Bs) : ByteArray := ⟨l.toArray⟩
abbrev sv (l : Bs) : Value := .string (bz l)
theorem bz_list (l : Bs) : (bz l).data.toList = l := rfl
theorem bz_size (l : Bs) : (bz l).size = l.length := rfl
theorem bz_of (s : ByteArray) : s = bz s.data.toList := by
  cases s; simp [bz]
theorem bz_inj {a b : Bs} : bz a = bz b ↔ a = b := ⟨fun h => by simpa [bz_list] using congrArg (fun s => s.data.toList) h, fun h => by rw [h]⟩
theorem bz_toList (l : Bs) : (bz l).toList = l := by rw [ByteArray.toList_eq]; rfl
theorem bz_ext (l : Bs) (i j : Nat) : (bz l).extract i j = bz ((l.drop i).take (j - i)) := by
  apply ByteArray.ext
  simp [bz]
theorem bz_append (a b : Bs) : bz a ++ bz b = bz (a ++ b) := by
  apply ByteArray.ext
  simp [bz]
theorem bz_beq (a b : Bs) : ((bz a).toList == (bz b).toList) = (a == b) := by rw [bz_toList, bz_toList]
theorem bz_nil : (⟨#[]⟩ : ByteArray) = bz [] := rfl
def byteL (l : Bs) (k : Nat) : Nat := (l.getD k 0).toNat
theorem byteL_eq {l : Bs} {k : Nat} (h : k < (bz l).size) : (bz l)[k].toNat = byteL l k := by
  have h' : k < l.length := h
  unfold byteL
  rw [show (l.getD k 0) = l[k] by simp [List.getD, h']]
  rfl
theorem byteL_get {l : Bs} {k : Nat} (h : k < l.length) : byteL l k = l[k].toNat := by
  unfold byteL; simp [List.getD, h]
end Go.Proofs.YtgfbmidpiamkhaaDoor
