/- What enter does, said. -/
import Derived.Test.YtjmenkjmghmkpaaGrF
namespace Go.Proofs.Ytjmenkjmghmkpaa
open Go.RowKit
open G22

def EnterPost (B F bm bl bx bi bg base N : Nat) (gv : Value) (s : St) (n : Nat) (w : World) (e : Ending) (w' : World) : Prop :=
  ∃ vo vw, e = .returned (.tuple #[]) ∧ FinAt w' F bm bl bx bi bg base N gv vo vw (enterS s n) ∧ Below B w w'
def EnterSaid : Prop := ∀ (B F bm bl bx bi bg base N : Nat) (gv vo vw : Value) (s : St) (n : Nat) (w : World) (h : FinAt w F bm bl bx bi bg base N gv vo vw s) (hB : From B F bm bl bx bi bg base)
    (hm : s.met.length = N) (hl : s.low.length = N) (hi : s.inn.length = N) (hn : n < N) (hN : N ≤ 1000000) (hc : s.count ≤ N) (ho : s.opn.length ≤ N) (hw : s.way.length ≤ N),
    Calls Try.prog 38 #[.pointer (some ⟨F, 0, none⟩), .int .i64 (n : Int)] w (EnterPost B F bm bl bx bi bg base N gv s n w)
end Go.Proofs.Ytjmenkjmghmkpaa
