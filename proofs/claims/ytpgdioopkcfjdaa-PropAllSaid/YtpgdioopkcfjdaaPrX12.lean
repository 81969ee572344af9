/- Expand, whatever comes of it. -/
import Derived.Test.YtpgdioopkcfjdaaPrX11
namespace Go.Proofs.Ytpgdioopkcfjdaa
open Go.RowKit

def errOf : Ans → Int
  | .ok _ => 0
  | .loop _ => 22
  | .big _ => 2
def nmOf : Ans → Bs
  | .ok _ => []
  | .loop n => n
  | .big n => n
theorem Expand_any {m : Int} {B T R Dn : Nat} {lv : Value} {L U done : PL} (hB : 0 < B) (hL : ∀ p ∈ L, p.2.length ≤ 1000000) (s : Bs) (w : World) (hm : MaxAt m w) (ht : TabAt w B T R Dn lv L U done) (hs : s.length ≤ 1000000) :
    Calls Try.prog 13 #[.pointer (some ⟨T, 0, none⟩), sv s] w fun e w' => e = .returned (.tuple #[sv (okOf (expP L done s).1), .int .i64 (errOf (expP L done s).1), sv (nmOf (expP L done s).1)]) ∧ TabAt w' B T R Dn lv L U (expP L done s).2 ∧ Ch (ChT T Dn) w w' := by
  cases hx : expP L done s with
  | mk x dn =>
    cases x with
    | ok v => exact Expand_ok hB hL s v dn w hm ht hs hx
    | loop n =>
      have h := Expand_bad (L := L) (done := done) hB hL s 22 n w hm ht hs (by decide) (by rw [hx]; rfl)
      rw [hx] at h
      exact h
    | big n =>
      have h := Expand_bad (L := L) (done := done) hB hL s 2 n w hm ht hs (by decide) (by rw [hx]; rfl)
      rw [hx] at h
      exact h
end Go.Proofs.Ytpgdioopkcfjdaa
