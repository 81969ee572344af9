/- prop.cut: a text's first reference. -/
import Derived.Test.YtpgdioopkcfjdaaPrD3
import Derived.Test.YtpgdioopkcfjdaaShIdx
namespace Go.Proofs.Ytpgdioopkcfjdaa
open Go.RowKit

abbrev sv (l : Bs) : Value := .string (bz l)
def MaxAt (m : Int) (w : World) : Prop := w.cell? ⟨0, 0, none⟩ = some (.int .i64 m)
theorem Index_any (s : Bs) (m : Int) (w : World) (hs : s.length ≤ 1000000) (hm : MaxAt m w) : Calls Try.prog 48 #[sv s, .string ⟨#[36, 123]⟩] w fun e w' => e = .returned (.int .i64 (Lib.index s [36, 123])) ∧ w' = w :=
  Any.strings_Index layIx (bz s) ⟨#[36, 123]⟩ m w (by rw [bz_size]; omega) hm
theorem IndexByte_any (s : ByteArray) (w : World) : Calls Try.prog 49 #[.string s, .int .u8 125] w fun e w' => e = .returned (.int .i64 (Lib.indexByte s.data.toList 125)) ∧ w' = w :=
  Any.strings_IndexByte layIb s 125 w
theorem results_tmp4 {fn : Func} {t u v x : Tmp} (h : fn.results = #[.tmp t, .tmp u, .tmp v, .tmp x]) (tmps : Array Value) (P : Program) (w : World) :
    (results fn tmps).run P w = .ok (.tuple #[tmps.getD t undef, tmps.getD u undef, tmps.getD v undef, tmps.getD x undef]) w := by
  simp [results, h]
theorem wrap_nat {x : Int} {n : Nat} (h : x = n) (hn : n < 9223372036854775808) : IntKind.i64.wrap x = n := by
  subst h
  unfold IntKind.wrap
  simp [IntKind.bits, IntKind.signed]
  omega
def cutV (s : Bs) : Option (Bs × Bs × Bs) → Value
  | none => .tuple #[sv s, sv [], sv [], .bool false]
  | some (a, n, r) => .tuple #[sv a, sv n, sv r, .bool true]
theorem cut_any (s : Bs) (m : Int) (w : World) (hs : s.length ≤ 1000000) (hm : MaxAt m w) : Calls Try.prog 35 #[sv s] w fun e w' => e = .returned (cutV s (cutP s)) ∧ ∃ n, w' = w.drewN n := by
  have H1 := Lib.hid (Index_any s m w hs hm)
  rw [index_open] at H1
  have He : (⟨#[]⟩ : ByteArray) = bz [] := rfl
  cases ho : findOpen s with
  | none =>
    rw [ho] at H1
    dsimp only at H1
    have hc : cutP s = none := by unfold cutP; rw [ho]
    rw [hc]
    clear ho hm hc
    go_enter Try.func35, Try.ntmps35
    go_wp2_with (go_at_call 48; refine H1.out.mono ?_; rintro e w1 ⟨rfl, rfl⟩)
    refine bodyPost_ret (results_tmp4 rfl _ _ _) rfl ?_
    exact ⟨rfl, 0, rfl⟩
  | some x =>
    obtain ⟨a, t⟩ := x
    rw [ho] at H1
    dsimp only at H1
    have hl := findOpen_len ho
    have hse := findOpen_eq ho
    have hx : (bz s).extract a.length s.length = bz (36 :: 123 :: t) := by rw [bz_ext, hse]; simp
    have hsz := bz_size s
    have H2 := Lib.hid (IndexByte_any (bz (36 :: 123 :: t)) w)
    have hib : Lib.indexByte (36 :: 123 :: t) 125 = match findShut t with | none => -1 | some (n, _) => ((n.length + 2 : Nat) : Int) := by
      unfold Lib.indexByte Lib.indexByte
      rw [indexByte_shut]
      cases findShut t with
      | none => rfl
      | some x => simp; omega
    rw [bz_list, hib] at H2
    clear hib
    cases hsh : findShut t with
    | none =>
      rw [hsh] at H2
      dsimp only at H2
      have hc : cutP s = none := by unfold cutP; rw [ho]; dsimp only; rw [hsh]
      rw [hc]
      clear ho hm hc hsh hse
      go_enter Try.func35, Try.ntmps35
      go_wp2_with (first
        | (go_at_call 48; refine H1.out.mono ?_; rintro e w1 ⟨rfl, rfl⟩)
        | (go_at_call 49; with_reducible refine H2.out.mono ?_; rintro e w1 ⟨rfl, rfl⟩))
      refine bodyPost_ret (results_tmp4 rfl _ _ _) rfl ?_
      exact ⟨rfl, 0, rfl⟩
    | some y =>
      obtain ⟨n, r⟩ := y
      rw [hsh] at H2
      dsimp only at H2
      have hl2 := findShut_len hsh
      have hte := (findShut_eq hsh).1
      have x1 : (bz s).extract 0 a.length = bz a := by rw [bz_ext, hse]; simp
      have x2 : (bz s).extract (a.length + 2) (a.length + (n.length + 2)) = bz n := by
        rw [bz_ext, hse, hte, show a.length + (n.length + 2) - (a.length + 2) = n.length by omega]
        simp
      have x3 : (bz s).extract (a.length + (n.length + 2) + 1) s.length = bz r := by
        rw [bz_ext, hse, hte]
        congr 1
        rw [show (a ++ 36 :: 123 :: (n ++ 125 :: r)) = (a ++ 36 :: 123 :: (n ++ [125])) ++ r by simp]
        rw [List.drop_left' (by simp; omega), List.take_of_length_le (by simp; omega)]
      have hc : cutP s = some (a, n, r) := by unfold cutP; rw [ho]; dsimp only; rw [hsh]
      rw [hc]
      clear ho hm hc hsh hse hte
      have c1 : IntKind.i64.wrap ((a.length : Int) + 2) = ((a.length + 2 : Nat) : Int) := wrap_nat (by omega) (by omega)
      have c2 : IntKind.i64.wrap ((a.length : Int) + ((n.length : Int) + 2)) = ((a.length + (n.length + 2) : Nat) : Int) := wrap_nat (by omega) (by omega)
      have c3 : IntKind.i64.wrap (((a.length + (n.length + 2) : Nat) : Int) + 1) = ((a.length + (n.length + 2) + 1 : Nat) : Int) := wrap_nat (by omega) (by omega)
      have b1 : a.length ≤ s.length := by omega
      have b2 : a.length + (n.length + 2) ≤ s.length := by omega
      have b3 : a.length + 2 ≤ a.length + (n.length + 2) := by omega
      have b4 : a.length + (n.length + 2) + 1 ≤ s.length := by omega
      go_enter Try.func35, Try.ntmps35
      go_wp2_with (first
        | (go_at_call 48; refine H1.out.mono ?_; rintro e w1 ⟨rfl, rfl⟩)
        | (go_at_call 49; with_reducible refine H2.out.mono ?_; rintro e w1 ⟨rfl, rfl⟩))
      trace_state
      go_quiet (fail)
      go_wp2
      refine bodyPost_ret (results_tmp4 rfl _ _ _) rfl ?_
      refine ⟨?_, _, rfl⟩
      show Ending.returned (.tuple #[sv a, .string ((bz s).extract (a.length + 2) (a.length + (n.length + 2))), .string ((bz s).extract (a.length + (n.length + 2) + 1) s.length), .bool true]) = _
      rw [x2, x3]; rfl
end Go.Proofs.Ytpgdioopkcfjdaa
