/- Moves through a region that draws its order, over a frame that is only a name. No function of the program is in sight. / look: a clause is appended to the watches of another literal. / look: a clause of which a watched literal became false. -/
import Derived.Deep.RegionHeld3
import Derived.BigRegion
import Derived.Test.YtcebafeaikipmaaZa
import Derived.Test.YtcebafeaikipmaaZb
namespace Go.Proofs.Ytcebafeaikipmaa.S15
open Go.RowKit

theorem put_def (a : Act) (d : Option Tmp) (v : Value) : (a.put d v).defers = a.defers := by cases d <;> rfl
section
variable {P : Program} {ops : Array Oper} {Q : Exit → Act → World → Prop} {md : Region.Mode} {S : World → Prop} {fuel : Nat} {listed : Array Bool} {w : World}
theorem wp_abs {c : Code} {f : Act} {n : Nat} (hn : f.tmps.size = n)
    (h : ∀ a : Act, Hid (a = f) → a.tmps.size = n → (∀ k, a.eval (.tmp k) = f.eval (.tmp k)) → c.wp P Q a w) : c.wp P Q f w := h f rfl hn fun _ => rfl
/-- behind an operation that has yielded: the frame has a new name -/
theorem abs_put {M : Act → Prop} {a : Act} {d : Tmp} {v : Value} {n : Nat} (hn : a.tmps.size = n) (hd : d < n)
    (h : ∀ b : Act, Hid (b = a.put (some d) v) → b.tmps.size = n → b.eval (.tmp d) = v → (∀ k, k ≠ d → b.eval (.tmp k) = a.eval (.tmp k)) → M b) : M (a.put (some d) v) := by
  refine h _ rfl (by simp [Act.put, hn]) ?_ fun k hk => ?_
  · have : d < a.tmps.size := by rw [hn]; exact hd
    simp [Act.put, Act.eval, this]
  · have h2 : d ≠ k := fun e => hk e.symm
    simp [Act.put, Act.eval, h2]
theorem abs_take {a : Act} {n : Nat} (i : Nat) {oi : Oper} {d : Tmp} {v : Value} (hn : a.tmps.size = n) (hi : ops[i]? = some oi) (hd : oi.dst = some d) (hdn : d < n) (hg : oi.guard = none)
    (hs : Region.noSelect ops = true) (hf : Region.free md ops listed i = true) (hr : (Region.ready md ops listed).contains i = true) (hQ : ∀ c a w, Q (.panic c) (a.put oi.dst v) w → Q (.panic c) a w)
    (hS : S w) (hy : ∀ w, S w → (execOp a.eval oi).run P w = .ok (.value v) w)
    (h : ∀ b : Act, Hid (b = a.put (some d) v) → b.tmps.size = n → b.eval (.tmp d) = v → (∀ k, k ≠ d → b.eval (.tmp k) = a.eval (.tmp k)) → wpAnyH P md ops Q S fuel (listed.setIfInBounds i true) b w) :
    wpAnyH P md ops Q S (fuel + 1) listed a w := by
  refine wpAnyH_take hi hs hf hr hQ (.inl ⟨by simp [Region.wanted, hg], hy⟩) hS ?_
  rw [hd]
  exact abs_put hn hdn h
/-- an operation that stands alone and yields -/
theorem abs_yield {a : Act} {o : Oper} {d : Tmp} {v : Value} {K : Act → World → Prop} {E : Prop} {n : Nat} (hn : a.tmps.size = n) (hg : o.guard = none) (hd : o.dst = some d) (hdn : d < n)
    (hy : (execOp a.eval o).run P w = .ok (.value v) w)
    (h : ∀ b : Act, Hid (b = a.put (some d) v) → b.tmps.size = n → b.eval (.tmp d) = v → (∀ k, k ≠ d → b.eval (.tmp k) = a.eval (.tmp k)) → K b w) :
    if Region.wanted o (yielded ops a.tmps) = true then Oper.wp P o a w K Q else E := by
  have hw : Region.wanted o (yielded ops a.tmps) = true := by simp [Region.wanted, hg]
  rw [if_pos hw]
  unfold Oper.wp
  rw [hy]
  show K (a.put o.dst v) w
  rw [hd]
  exact abs_put hn hdn h
/-- an operation that stands alone, yields and changes the world -/
theorem abs_make {a : Act} {o : Oper} {d : Tmp} {v : Value} {w' : World} {K : Act → World → Prop} {E : Prop} {n : Nat} (hn : a.tmps.size = n) (hg : o.guard = none) (hd : o.dst = some d) (hdn : d < n)
    (hy : (execOp a.eval o).run P w = .ok (.value v) w')
    (h : ∀ b : Act, Hid (b = a.put (some d) v) → b.tmps.size = n → b.eval (.tmp d) = v → (∀ k, k ≠ d → b.eval (.tmp k) = a.eval (.tmp k)) → K b w') :
    if Region.wanted o (yielded ops a.tmps) = true then Oper.wp P o a w K Q else E := by
  have hw : Region.wanted o (yielded ops a.tmps) = true := by simp [Region.wanted, hg]
  rw [if_pos hw]
  unfold Oper.wp
  rw [hy]
  show K (a.put o.dst v) w'
  rw [hd]
  exact abs_put hn hdn h
/-- a store that stands alone -/
theorem abs_store {a : Act} {o : Oper} {w' : World} {K : Act → World → Prop} {E : Prop} (hg : o.guard = none) (hd : o.dst = none) (hy : (execOp a.eval o).run P w = .ok .skip w') (h : K a w') :
    if Region.wanted o (yielded ops a.tmps) = true then Oper.wp P o a w K Q else E := by
  have hw : Region.wanted o (yielded ops a.tmps) = true := by simp [Region.wanted, hg]
  rw [if_pos hw]
  unfold Oper.wp
  rw [hy]
  show K (a.put o.dst undef) w'
  rw [hd]
  exact h
end
section
variable {P : Program} {w : World} {ρ : Operand → Value} {o : Oper}
theorem ex_move {x : Operand} (ho : o.op = .move x) {v : Value} (hx : ρ x = v) : (execOp ρ o).run P w = .ok (.value v) w := by
  unfold execOp; rw [ho]; subst hx; rfl
theorem ex_nil {x : Operand} (ho : o.op = .nilCheck x) {p : Addr} (hx : ρ x = .pointer (some p)) : (execOp ρ o).run P w = .ok (.value (.pointer (some p))) w := by
  unfold execOp; rw [ho]; simp only [hx]; rfl
theorem ex_value {m : Sem Value} {v : Value} (hf : m.run P w = .ok v w) : (do let u ← m; pure (Next.value u) : Sem Next).run P w = .ok (.value v) w := by
  rw [Sem.run_bind, hf, Result.andThen_ok, Sem.run_pure]
theorem ex_field {x : Operand} {t : TypeId} {k : Nat} (ho : o.op = .fieldAddr t x k) {p q : Addr} (hx : ρ x = .pointer (some p)) (hf : (Instr.fieldAt t (.pointer (some p)) k).run P w = .ok (.pointer (some q)) w) : (execOp ρ o).run P w = .ok (.value (.pointer (some q))) w := by
  unfold execOp; rw [ho]; simp only [hx]
  exact ex_value hf
theorem ex_index {x y : Operand} {t : TypeId} (ho : o.op = .indexAddr t x y) {u v : Value} (hx : ρ x = u) (hy : ρ y = v) {q : Addr} (hf : (Instr.indexAt t u v).run P w = .ok (.pointer (some q)) w) : (execOp ρ o).run P w = .ok (.value (.pointer (some q))) w := by
  unfold execOp; rw [ho]; simp only [hx, hy]
  exact ex_value hf
theorem ex_load {x : Operand} {t : TypeId} (ho : o.op = .load t x) {p : Addr} (hx : ρ x = .pointer (some p)) {v : Value} (hc : (Instr.loadAt t (.pointer (some p))).run P w = .ok v w) : (execOp ρ o).run P w = .ok (.value v) w := by
  unfold execOp; rw [ho]; simp only [hx]
  exact ex_value hc
theorem ex_slice1 {x : Operand} {t : TypeId} (ho : o.op = .buildSlice t 1 #[(0, x)]) {u v : Value} {w' : World} (hx : ρ x = u) (hf : (Instr.buildSlice t 1 #[(0, u)]).run P w = .ok v w') : (execOp ρ o).run P w = .ok (.value v) w' := by
  unfold execOp; rw [ho]
  have e : (#[((0 : Nat), x)].map fun (i, x) => (i, ρ x)) = #[(0, u)] := by subst hx; simp
  simp only [e]
  rw [Sem.run_bind, hf, Result.andThen_ok, Sem.run_pure]
theorem ex_store {x y : Operand} {t : TypeId} (ho : o.op = .store t x y) {u v : Value} {w' : World} (hx : ρ x = u) (hy : ρ y = v) (hf : (Instr.storeAt t u v).run P w = .ok () w') : (execOp ρ o).run P w = .ok .skip w' := by
  unfold execOp; rw [ho]; simp only [hx, hy]
  rw [Sem.run_bind, hf, Result.andThen_ok, Sem.run_pure]
end
end Go.Proofs.Ytcebafeaikipmaa.S15

namespace Go.Proofs.Ytcebafeaikipmaa.S15
open Go.RowKit

theorem abs_pushG {P : Program} {ops : Array Oper} {o : Oper} {w : World} {a : Act} {K : Act → World → Prop} {Q : Exit → Act → World → Prop} {E : Prop} {N : Nat} {d : Tmp} (hN : a.tmps.size = N) (hd : o.dst = some d) (hdn : d < N) (hgd : o.guard = none) (s x : Operand) (t : TypeId)
    (ho : o.op = .call { callee := .builtin .append, args := #[s, x], argTypes := #[t, t] }) {e : TypeId} {bytes B : Nat} (he : Elem1 P t e bytes)
    {v : Value} {xs : List Value} (hs : a.eval s = v) (hown : OwnG w B e v xs) (g : Nat) (u : Value) (hx : a.eval x = .slice (some ⟨g, 0, none⟩) 1 1)
    (hc : w.cell? ⟨g, 0, none⟩ = some u) (h1 : u.oneCell' = true) (hn : xs.length < 1000000000000) (hbase : B ≤ w.heap.size)
    (h : ∀ v' w', OwnG w' B e v' (xs ++ [u]) → w.grownBy w' v.ownBlock → NewOr w v v' → ∀ b : Act, Hid (b = a.put (some d) v') → b.tmps.size = N → b.eval (.tmp d) = v' → (∀ k, k ≠ d → b.eval (.tmp k) = a.eval (.tmp k)) → K b w') :
    if Region.wanted o (yielded ops a.tmps) = true then Oper.wp P o a w K Q else E := by
  refine step_pushG hgd s x t ho he hs hown g u hx hc h1 hn hbase fun v' w' q1 q2 q3 => ?_
  rw [hd]
  exact abs_put (M := fun b => K b w') hN hdn (h v' w' q1 q2 q3)

/-- the piece of a text that bears a number -/
def pieceIn (n : Nat) : Code → Option Code
  | .region id ops d => if id = n then some (.region id ops d) else none
  | .seq a b => match pieceIn n a with
    | some c => some c
    | none => pieceIn n b
  | .cond _ a b => match pieceIn n a with
    | some c => some c
    | none => pieceIn n b
  | .block _ c => pieceIn n c
  | .loop c => pieceIn n c
  | .scope c => pieceIn n c
  | _ => none
noncomputable def lookR : Code := (Try.f62.body.bind (pieceIn 11)).getD .skip
set_option maxRecDepth 100000 in
set_option maxHeartbeats 4000000 in
theorem look_push {w3 : World} {B S : Nat} {ad : List Nat} {vl : Rl → Value} {T2 : St} (H3 : Hid (SAt w3 B S ad vl T2)) {c y a gw cw gl cl n cr : Nat} {Ar : Option Addr} {Q : List Nat} {R : Exit → Act → World → Prop} {fa : Act}
    (hn0 : fa.tmps.size = 139) (e0 : fa.eval (.tmp 0) = .pointer (some ⟨S, 0, none⟩)) (e1 : fa.eval (.tmp 1) = .pointer (some ⟨a, 0, none⟩))
    (c3 : w3.cell? ⟨S, 3, none⟩ = some (.slice (some ⟨gw, 0, none⟩) T2.watch.length cw)) (ca : w3.cell? ⟨a, 0, none⟩ = some (.slice (some ⟨gl, 0, none⟩) n cl)) (cy : w3.cell? ⟨gl, 1, none⟩ = some (.int .i64 (y : Int)))
    (dw : w3.cell? ⟨gw, y, none⟩ = some (.slice Ar Q.length cr)) (_h2 : 2 ≤ n) (_hcl : n ≤ cl) (_hcl3 : cl ≤ 9223372036854775807) (h1n : (1 : Int) < (n : Int)) (hy3 : y < T2.watch.length) (hln2 : Q.length ≤ 1000000000)
    (Hwt : Hid (vl .wt = .slice (some ⟨gw, 0, none⟩) T2.watch.length cw)) (Hwr : Hid (vl (.wr y) = .slice Ar Q.length cr)) (HcQ : Hid (cont T2 ad vl (.wr y) = Q.map (pC ad))) (HO : Hid (OwnG w3 B 96 (.slice Ar Q.length cr) (Q.map (pC ad)))) (Ha : Hid (pC ad c = .pointer (some ⟨a, 0, none⟩)))
    (nWS : gw ≠ S) (nWa : gw ≠ a) (nWl : gw ≠ gl) (nWC : (vl (.wr y)).ownBlock ≠ some a) (nWL : (vl (.wr y)).ownBlock ≠ some gl) (hsz : B ≤ w3.heap.size) (hSl : S < w3.heap.size) (hal3 : a < w3.heap.size) (hgl3 : gl < w3.heap.size)
    (hp : ∀ c a (d : Tmp) v w, R (.panic c) (a.put (some d) v) w → R (.panic c) a w)
    (hQ : ∀ (b : Act) (w' : World), b.tmps.size = 139 → b.defers = fa.defers → ∀ v, SAt w' B S ad (updV vl (.wr y) v) (pushW T2 y c) → Stp w3 B S ad vl w' ad (updV vl (.wr y) v) → R .normal b w') :
    lookR.wp Try.prog R fa w3 := by
  have c3a : ((w3.alloc (.cells #[.pointer (some ⟨a, 0, none⟩)] 96)).drew).cell? ⟨S, 3, none⟩ = _ := (World.cell?_of_block (a := ⟨S, 3, none⟩) (Below.heap_alloc w3 _ S hSl)).trans c3
  have caa : ((w3.alloc (.cells #[.pointer (some ⟨a, 0, none⟩)] 96)).drew).cell? ⟨a, 0, none⟩ = _ := (World.cell?_of_block (a := ⟨a, 0, none⟩) (Below.heap_alloc w3 _ a hal3)).trans ca
  have cya : ((w3.alloc (.cells #[.pointer (some ⟨a, 0, none⟩)] 96)).drew).cell? ⟨gl, 1, none⟩ = _ := (World.cell?_of_block (a := ⟨gl, 1, none⟩) (Below.heap_alloc w3 _ gl hgl3)).trans cy
  have dwa : ((w3.alloc (.cells #[.pointer (some ⟨a, 0, none⟩)] 96)).drew).cell? ⟨gw, y, none⟩ = _ := (World.cell?_of_block (a := ⟨gw, y, none⟩) (Below.heap_alloc w3 _ gw (World.block_lt_of_cell? w3 ⟨gw, y, none⟩ dw))).trans dw
  conv => arg 2; whnf
  refine wp_region_held_drew (S := (fun w' => w'.cell? ⟨S, 3, none⟩ = some (.slice (some ⟨gw, 0, none⟩) T2.watch.length cw) ∧ w'.cell? ⟨a, 0, none⟩ = some (.slice (some ⟨gl, 0, none⟩) n cl) ∧ w'.cell? ⟨gl, 1, none⟩ = some (.int .i64 (y : Int)))) (by kernel_rfl) ⟨c3, ca, cy⟩ (fun hHeld => ?_)
  refine abs_take 0 (v := .pointer (some ⟨S, 0, none⟩)) hn0 rfl rfl (by decide) rfl (by kernel_rfl) (by kernel_rfl) (by kernel_rfl) (fun _ _ _ h => hp _ _ _ _ _ h) hHeld (fun w1 hw1 => ex_move rfl e0) ?_
  intro b1 Hb1 hn1 e101 hk
  replace e0 := (hk 0 (by decide)).trans e0
  replace e1 := (hk 1 (by decide)).trans e1
  clear hk
  refine abs_take 1 (v := .pointer (some ⟨S, 0, none⟩)) hn1 rfl rfl (by decide) rfl (by kernel_rfl) (by kernel_rfl) (by kernel_rfl) (fun _ _ _ h => hp _ _ _ _ _ h) hHeld (fun w1 hw1 => ex_nil rfl e101) ?_
  intro b2 Hb2 hn2 e102 hk
  replace e0 := (hk 0 (by decide)).trans e0
  replace e1 := (hk 1 (by decide)).trans e1
  clear hk e101
  refine abs_take 2 (v := .pointer (some ⟨S, 3, none⟩)) hn2 rfl rfl (by decide) rfl (by kernel_rfl) (by kernel_rfl) (by kernel_rfl) (fun _ _ _ h => hp _ _ _ _ _ h) hHeld (fun w1 hw1 => ex_field rfl e102 (by (try dsimp only at hw1); go_simp)) ?_
  intro b3 Hb3 hn3 e103 hk
  replace e0 := (hk 0 (by decide)).trans e0
  replace e1 := (hk 1 (by decide)).trans e1
  clear hk e102
  refine abs_take 3 (v := .slice (some ⟨gw, 0, none⟩) T2.watch.length cw) hn3 rfl rfl (by decide) rfl (by kernel_rfl) (by kernel_rfl) (by kernel_rfl) (fun _ _ _ h => hp _ _ _ _ _ h) hHeld (fun w1 hw1 => ex_load rfl e103 (by (try dsimp only at hw1); go_simp)) ?_
  intro b4 Hb4 hn4 e104 hk
  replace e0 := (hk 0 (by decide)).trans e0
  replace e1 := (hk 1 (by decide)).trans e1
  clear hk e103
  refine abs_take 4 (v := .pointer (some ⟨a, 0, none⟩)) hn4 rfl rfl (by decide) rfl (by kernel_rfl) (by kernel_rfl) (by kernel_rfl) (fun _ _ _ h => hp _ _ _ _ _ h) hHeld (fun w1 hw1 => ex_move rfl e1) ?_
  intro b5 Hb5 hn5 e105 hk
  replace e0 := (hk 0 (by decide)).trans e0
  replace e1 := (hk 1 (by decide)).trans e1
  replace e104 := (hk 104 (by decide)).trans e104
  clear hk
  refine abs_take 5 (v := .pointer (some ⟨a, 0, none⟩)) hn5 rfl rfl (by decide) rfl (by kernel_rfl) (by kernel_rfl) (by kernel_rfl) (fun _ _ _ h => hp _ _ _ _ _ h) hHeld (fun w1 hw1 => ex_nil rfl e105) ?_
  intro b6 Hb6 hn6 e106 hk
  replace e0 := (hk 0 (by decide)).trans e0
  replace e1 := (hk 1 (by decide)).trans e1
  replace e104 := (hk 104 (by decide)).trans e104
  clear hk e105
  refine abs_take 6 (v := .pointer (some ⟨a, 0, none⟩)) hn6 rfl rfl (by decide) rfl (by kernel_rfl) (by kernel_rfl) (by kernel_rfl) (fun _ _ _ h => hp _ _ _ _ _ h) hHeld (fun w1 hw1 => ex_field rfl e106 (by (try dsimp only at hw1); go_simp)) ?_
  intro b7 Hb7 hn7 e107 hk
  replace e0 := (hk 0 (by decide)).trans e0
  replace e1 := (hk 1 (by decide)).trans e1
  replace e104 := (hk 104 (by decide)).trans e104
  clear hk e106
  refine abs_take 7 (v := .slice (some ⟨gl, 0, none⟩) n cl) hn7 rfl rfl (by decide) rfl (by kernel_rfl) (by kernel_rfl) (by kernel_rfl) (fun _ _ _ h => hp _ _ _ _ _ h) hHeld (fun w1 hw1 => ex_load rfl e107 (by (try dsimp only at hw1); go_simp)) ?_
  intro b8 Hb8 hn8 e108 hk
  replace e0 := (hk 0 (by decide)).trans e0
  replace e1 := (hk 1 (by decide)).trans e1
  replace e104 := (hk 104 (by decide)).trans e104
  clear hk e107
  refine abs_take 8 (v := .pointer (some ⟨gl, 1, none⟩)) hn8 rfl rfl (by decide) rfl (by kernel_rfl) (by kernel_rfl) (by kernel_rfl) (fun _ _ _ h => hp _ _ _ _ _ h) hHeld (fun w1 hw1 => ex_index rfl e108 rfl (by (try dsimp only at hw1); go_simp)) ?_
  intro b9 Hb9 hn9 e109 hk
  replace e0 := (hk 0 (by decide)).trans e0
  replace e1 := (hk 1 (by decide)).trans e1
  replace e104 := (hk 104 (by decide)).trans e104
  clear hk e108
  refine abs_take 9 (v := .int .i64 (y : Int)) hn9 rfl rfl (by decide) rfl (by kernel_rfl) (by kernel_rfl) (by kernel_rfl) (fun _ _ _ h => hp _ _ _ _ _ h) hHeld (fun w1 hw1 => ex_load rfl e109 (by (try dsimp only at hw1); go_simp)) ?_
  intro b10 Hb10 hn10 e110 hk
  replace e0 := (hk 0 (by decide)).trans e0
  replace e1 := (hk 1 (by decide)).trans e1
  replace e104 := (hk 104 (by decide)).trans e104
  clear hk e109
  refine abs_take 10 (v := .pointer (some ⟨S, 0, none⟩)) hn10 rfl rfl (by decide) rfl (by kernel_rfl) (by kernel_rfl) (by kernel_rfl) (fun _ _ _ h => hp _ _ _ _ _ h) hHeld (fun w1 hw1 => ex_move rfl e0) ?_
  intro b11 Hb11 hn11 e111 hk
  replace e1 := (hk 1 (by decide)).trans e1
  replace e104 := (hk 104 (by decide)).trans e104
  replace e110 := (hk 110 (by decide)).trans e110
  clear hk e0
  refine abs_take 11 (v := .pointer (some ⟨S, 0, none⟩)) hn11 rfl rfl (by decide) rfl (by kernel_rfl) (by kernel_rfl) (by kernel_rfl) (fun _ _ _ h => hp _ _ _ _ _ h) hHeld (fun w1 hw1 => ex_nil rfl e111) ?_
  intro b12 Hb12 hn12 e112 hk
  replace e1 := (hk 1 (by decide)).trans e1
  replace e104 := (hk 104 (by decide)).trans e104
  replace e110 := (hk 110 (by decide)).trans e110
  clear hk e111
  refine abs_take 12 (v := .pointer (some ⟨S, 3, none⟩)) hn12 rfl rfl (by decide) rfl (by kernel_rfl) (by kernel_rfl) (by kernel_rfl) (fun _ _ _ h => hp _ _ _ _ _ h) hHeld (fun w1 hw1 => ex_field rfl e112 (by (try dsimp only at hw1); go_simp)) ?_
  intro b13 Hb13 hn13 e113 hk
  replace e1 := (hk 1 (by decide)).trans e1
  replace e104 := (hk 104 (by decide)).trans e104
  replace e110 := (hk 110 (by decide)).trans e110
  clear hk e112
  refine abs_take 13 (v := .slice (some ⟨gw, 0, none⟩) T2.watch.length cw) hn13 rfl rfl (by decide) rfl (by kernel_rfl) (by kernel_rfl) (by kernel_rfl) (fun _ _ _ h => hp _ _ _ _ _ h) hHeld (fun w1 hw1 => ex_load rfl e113 (by (try dsimp only at hw1); go_simp)) ?_
  intro b14 Hb14 hn14 e114 hk
  replace e1 := (hk 1 (by decide)).trans e1
  replace e104 := (hk 104 (by decide)).trans e104
  replace e110 := (hk 110 (by decide)).trans e110
  clear hk e113
  refine abs_take 14 (v := .pointer (some ⟨a, 0, none⟩)) hn14 rfl rfl (by decide) rfl (by kernel_rfl) (by kernel_rfl) (by kernel_rfl) (fun _ _ _ h => hp _ _ _ _ _ h) hHeld (fun w1 hw1 => ex_move rfl e1) ?_
  intro b15 Hb15 hn15 e115 hk
  replace e1 := (hk 1 (by decide)).trans e1
  replace e104 := (hk 104 (by decide)).trans e104
  replace e110 := (hk 110 (by decide)).trans e110
  replace e114 := (hk 114 (by decide)).trans e114
  clear hk
  refine abs_take 15 (v := .pointer (some ⟨a, 0, none⟩)) hn15 rfl rfl (by decide) rfl (by kernel_rfl) (by kernel_rfl) (by kernel_rfl) (fun _ _ _ h => hp _ _ _ _ _ h) hHeld (fun w1 hw1 => ex_nil rfl e115) ?_
  intro b16 Hb16 hn16 e116 hk
  replace e1 := (hk 1 (by decide)).trans e1
  replace e104 := (hk 104 (by decide)).trans e104
  replace e110 := (hk 110 (by decide)).trans e110
  replace e114 := (hk 114 (by decide)).trans e114
  clear hk e115
  refine abs_take 16 (v := .pointer (some ⟨a, 0, none⟩)) hn16 rfl rfl (by decide) rfl (by kernel_rfl) (by kernel_rfl) (by kernel_rfl) (fun _ _ _ h => hp _ _ _ _ _ h) hHeld (fun w1 hw1 => ex_field rfl e116 (by (try dsimp only at hw1); go_simp)) ?_
  intro b17 Hb17 hn17 e117 hk
  replace e1 := (hk 1 (by decide)).trans e1
  replace e104 := (hk 104 (by decide)).trans e104
  replace e110 := (hk 110 (by decide)).trans e110
  replace e114 := (hk 114 (by decide)).trans e114
  clear hk e116
  refine abs_take 17 (v := .slice (some ⟨gl, 0, none⟩) n cl) hn17 rfl rfl (by decide) rfl (by kernel_rfl) (by kernel_rfl) (by kernel_rfl) (fun _ _ _ h => hp _ _ _ _ _ h) hHeld (fun w1 hw1 => ex_load rfl e117 (by (try dsimp only at hw1); go_simp)) ?_
  intro b18 Hb18 hn18 e118 hk
  replace e1 := (hk 1 (by decide)).trans e1
  replace e104 := (hk 104 (by decide)).trans e104
  replace e110 := (hk 110 (by decide)).trans e110
  replace e114 := (hk 114 (by decide)).trans e114
  clear hk e117
  refine abs_take 18 (v := .pointer (some ⟨gl, 1, none⟩)) hn18 rfl rfl (by decide) rfl (by kernel_rfl) (by kernel_rfl) (by kernel_rfl) (fun _ _ _ h => hp _ _ _ _ _ h) hHeld (fun w1 hw1 => ex_index rfl e118 rfl (by (try dsimp only at hw1); go_simp)) ?_
  intro b19 Hb19 hn19 e119 hk
  replace e1 := (hk 1 (by decide)).trans e1
  replace e104 := (hk 104 (by decide)).trans e104
  replace e110 := (hk 110 (by decide)).trans e110
  replace e114 := (hk 114 (by decide)).trans e114
  clear hk e118
  refine abs_take 19 (v := .int .i64 (y : Int)) hn19 rfl rfl (by decide) rfl (by kernel_rfl) (by kernel_rfl) (by kernel_rfl) (fun _ _ _ h => hp _ _ _ _ _ h) hHeld (fun w1 hw1 => ex_load rfl e119 (by (try dsimp only at hw1); go_simp)) ?_
  intro b20 Hb20 hn20 e120 hk
  replace e1 := (hk 1 (by decide)).trans e1
  replace e104 := (hk 104 (by decide)).trans e104
  replace e110 := (hk 110 (by decide)).trans e110
  replace e114 := (hk 114 (by decide)).trans e114
  clear hk e119
  refine abs_take 20 (v := .pointer (some ⟨gw, y, none⟩)) hn20 rfl rfl (by decide) rfl (by kernel_rfl) (by kernel_rfl) (by kernel_rfl) (fun _ _ _ h => hp _ _ _ _ _ h) hHeld (fun w1 hw1 => ex_index rfl e114 e120 (by (try dsimp only at hw1); go_simp)) ?_
  intro b21 Hb21 hn21 e121 hk
  replace e1 := (hk 1 (by decide)).trans e1
  replace e104 := (hk 104 (by decide)).trans e104
  replace e110 := (hk 110 (by decide)).trans e110
  clear hk e114 e120
  refine abs_take 22 (v := .pointer (some ⟨a, 0, none⟩)) hn21 rfl rfl (by decide) rfl (by kernel_rfl) (by kernel_rfl) (by kernel_rfl) (fun _ _ _ h => hp _ _ _ _ _ h) hHeld (fun w1 hw1 => ex_move rfl e1) ?_
  intro b22 Hb22 hn22 e123 hk
  replace e104 := (hk 104 (by decide)).trans e104
  replace e110 := (hk 110 (by decide)).trans e110
  replace e121 := (hk 121 (by decide)).trans e121
  clear hk e1
  refine wpAnyH_ready (rs := [21, 23]) (by kernel_rfl) (by simp) ?_
  refine AllReadyH.cons rfl (fun K hK => ?_) (AllReadyH.cons rfl (fun K hK => ?_) AllReadyH.nil)
  · skip
    refine abs_yield (v := .slice Ar Q.length cr) hn22 rfl rfl (by decide) (ex_load rfl e121 (by go_simp)) ?_
    intro b23 Hb23 hn23 e122 hk
    replace e104 := (hk 104 (by decide)).trans e104
    replace e110 := (hk 110 (by decide)).trans e110
    replace e123 := (hk 123 (by decide)).trans e123
    clear hk e121
    refine hK.out _ _ ⟨c3, ca, cy⟩ (fun hHeld => ?_)
    clear hK K
    refine wpAnyH_ready (rs := [23]) (by kernel_rfl) (by simp) ?_
    refine AllReadyH.cons rfl (fun K hK => ?_) AllReadyH.nil
    refine abs_make (v := .slice (some ⟨w3.heap.size, 0, none⟩) 1 1) (w' := (w3.alloc (.cells #[.pointer (some ⟨a, 0, none⟩)] 96)).drew) hn23 rfl rfl (by decide) (ex_slice1 rfl e123 (by go_simp)) ?_
    intro b24 Hb24 hn24 e124 hk
    replace e104 := (hk 104 (by decide)).trans e104
    replace e110 := (hk 110 (by decide)).trans e110
    replace e122 := (hk 122 (by decide)).trans e122
    clear hk e123
    refine hK.out _ _ ⟨c3a, caa, cya⟩ (fun hHeld => ?_)
    clear hK K
    refine wpAnyH_ready (rs := [24]) (by kernel_rfl) (by simp) ?_
    refine AllReadyH.cons rfl (fun K hK => ?_) AllReadyH.nil
    refine abs_pushG hn24 rfl (by decide) rfl _ _ _ rfl eCls (v := .slice Ar Q.length cr) e122 (HO.out.kp fun _ _ => kp_new (below_alloc _ _) _) w3.heap.size (.pointer (some ⟨a, 0, none⟩)) e124 (one_new w3 _ _) rfl (by simp; omega) (by simp; omega) ?_
    intro v' w5 hown hg hn
    rw [← Ha.out] at hown
    rw [← Hwr.out] at hg hn
    obtain ⟨A', c', hv'⟩ := hown.shape
    rw [show (Q.map (pC ad) ++ [pC ad c]).length = Q.length + 1 by simp] at hv'
    subst hv'
    intro b25 Hb25 hn25 e125 hk
    replace e104 := (hk 104 (by decide)).trans e104
    replace e110 := (hk 110 (by decide)).trans e110
    clear hk e122 e124
    have hb3 : Below w3.heap.size w3 (w3.alloc (.cells #[.pointer (some ⟨a, 0, none⟩)] 96)).drew := (below_alloc w3 _).drew
    obtain ⟨q1, q2, q3, q4, q5⟩ := H3.out.pushWr y c hb3 hy3 Hwt.out HcQ.out hown hg hn
    rw [Hwt.out] at q3
    rw [Hwr.out] at q4
    have hch := (ch_new hb3 (fun i => some i = (vl (.wr y)).ownBlock)).trans (ch_grown hg)
    have qa := (World.cell?_of_block (a := ⟨a, 0, none⟩) (hch.block a hal3 (fun e => nWC e.symm))).trans ca
    have ql := (World.cell?_of_block (a := ⟨gl, 1, none⟩) (hch.block gl hgl3 (fun e => nWL e.symm))).trans cy
    have H7 := Lib.hid q1
    have P7 := Lib.hid q2
    clear q1 q2 hown hg hn hch hb3
    refine hK.out _ _ ⟨q3, qa, ql⟩ (fun hHeld => ?_)
    clear hK K
    refine abs_take 25 (v := .pointer (some ⟨gw, y, none⟩)) hn25 rfl rfl (by decide) rfl (by kernel_rfl) (by kernel_rfl) (by kernel_rfl) (fun _ _ _ h => hp _ _ _ _ _ h) hHeld (fun w1 hw1 => ex_index rfl e104 e110 (by (try dsimp only at hw1); go_simp)) ?_
    intro b26 Hb26 hn26 e126 hk
    replace e125 := (hk 125 (by decide)).trans e125
    clear hk e104 e110
    refine wpAnyH_ready (rs := [26]) (by kernel_rfl) (by simp) ?_
    refine AllReadyH.cons rfl (fun K hK => ?_) AllReadyH.nil
    refine abs_store (w' := w5.setCell ⟨gw, y, none⟩ (.slice A' (Q.length + 1) c')) rfl rfl (ex_store rfl e126 e125 (by go_simp)) ?_
    refine hK.out _ _ ⟨by rw [World.cell?_setCell_far _ _ _ _ nWS]; exact q3, by rw [World.cell?_setCell_far _ _ _ _ nWa]; exact qa, by rw [World.cell?_setCell_far _ _ _ _ nWl]; exact ql⟩ (fun hHeld => ?_)
    clear hK K
    refine wpAnyH_done (by kernel_rfl) ?_ _
    exact hQ _ _ hn26 (by rw [Hb26.out, put_def, Hb25.out, put_def, Hb24.out, put_def, Hb23.out, put_def, Hb22.out, put_def, Hb21.out, put_def, Hb20.out, put_def, Hb19.out, put_def, Hb18.out, put_def, Hb17.out, put_def, Hb16.out, put_def, Hb15.out, put_def, Hb14.out, put_def, Hb13.out, put_def, Hb12.out, put_def, Hb11.out, put_def, Hb10.out, put_def, Hb9.out, put_def, Hb8.out, put_def, Hb7.out, put_def, Hb6.out, put_def, Hb5.out, put_def, Hb4.out, put_def, Hb3.out, put_def, Hb2.out, put_def, Hb1.out, put_def]) _ H7.out P7.out
  · skip
    refine abs_make (v := .slice (some ⟨w3.heap.size, 0, none⟩) 1 1) (w' := (w3.alloc (.cells #[.pointer (some ⟨a, 0, none⟩)] 96)).drew) hn22 rfl rfl (by decide) (ex_slice1 rfl e123 (by go_simp)) ?_
    intro b23 Hb23 hn23 e124 hk
    replace e104 := (hk 104 (by decide)).trans e104
    replace e110 := (hk 110 (by decide)).trans e110
    replace e121 := (hk 121 (by decide)).trans e121
    clear hk e123
    refine hK.out _ _ ⟨c3a, caa, cya⟩ (fun hHeld => ?_)
    clear hK K
    refine wpAnyH_ready (rs := [21]) (by kernel_rfl) (by simp) ?_
    refine AllReadyH.cons rfl (fun K hK => ?_) AllReadyH.nil
    refine abs_yield (v := .slice Ar Q.length cr) hn23 rfl rfl (by decide) (ex_load rfl e121 (by go_simp)) ?_
    intro b24 Hb24 hn24 e122 hk
    replace e104 := (hk 104 (by decide)).trans e104
    replace e110 := (hk 110 (by decide)).trans e110
    replace e124 := (hk 124 (by decide)).trans e124
    clear hk e121
    refine hK.out _ _ ⟨c3a, caa, cya⟩ (fun hHeld => ?_)
    clear hK K
    refine wpAnyH_ready (rs := [24]) (by kernel_rfl) (by simp) ?_
    refine AllReadyH.cons rfl (fun K hK => ?_) AllReadyH.nil
    refine abs_pushG hn24 rfl (by decide) rfl _ _ _ rfl eCls (v := .slice Ar Q.length cr) e122 (HO.out.kp fun _ _ => kp_new (below_alloc _ _) _) w3.heap.size (.pointer (some ⟨a, 0, none⟩)) e124 (one_new w3 _ _) rfl (by simp; omega) (by simp; omega) ?_
    intro v' w5 hown hg hn
    rw [← Ha.out] at hown
    rw [← Hwr.out] at hg hn
    obtain ⟨A', c', hv'⟩ := hown.shape
    rw [show (Q.map (pC ad) ++ [pC ad c]).length = Q.length + 1 by simp] at hv'
    subst hv'
    intro b25 Hb25 hn25 e125 hk
    replace e104 := (hk 104 (by decide)).trans e104
    replace e110 := (hk 110 (by decide)).trans e110
    clear hk e122 e124
    have hb3 : Below w3.heap.size w3 (w3.alloc (.cells #[.pointer (some ⟨a, 0, none⟩)] 96)).drew := (below_alloc w3 _).drew
    obtain ⟨q1, q2, q3, q4, q5⟩ := H3.out.pushWr y c hb3 hy3 Hwt.out HcQ.out hown hg hn
    rw [Hwt.out] at q3
    rw [Hwr.out] at q4
    have hch := (ch_new hb3 (fun i => some i = (vl (.wr y)).ownBlock)).trans (ch_grown hg)
    have qa := (World.cell?_of_block (a := ⟨a, 0, none⟩) (hch.block a hal3 (fun e => nWC e.symm))).trans ca
    have ql := (World.cell?_of_block (a := ⟨gl, 1, none⟩) (hch.block gl hgl3 (fun e => nWL e.symm))).trans cy
    have H7 := Lib.hid q1
    have P7 := Lib.hid q2
    clear q1 q2 hown hg hn hch hb3
    refine hK.out _ _ ⟨q3, qa, ql⟩ (fun hHeld => ?_)
    clear hK K
    refine abs_take 25 (v := .pointer (some ⟨gw, y, none⟩)) hn25 rfl rfl (by decide) rfl (by kernel_rfl) (by kernel_rfl) (by kernel_rfl) (fun _ _ _ h => hp _ _ _ _ _ h) hHeld (fun w1 hw1 => ex_index rfl e104 e110 (by (try dsimp only at hw1); go_simp)) ?_
    intro b26 Hb26 hn26 e126 hk
    replace e125 := (hk 125 (by decide)).trans e125
    clear hk e104 e110
    refine wpAnyH_ready (rs := [26]) (by kernel_rfl) (by simp) ?_
    refine AllReadyH.cons rfl (fun K hK => ?_) AllReadyH.nil
    refine abs_store (w' := w5.setCell ⟨gw, y, none⟩ (.slice A' (Q.length + 1) c')) rfl rfl (ex_store rfl e126 e125 (by go_simp)) ?_
    refine hK.out _ _ ⟨by rw [World.cell?_setCell_far _ _ _ _ nWS]; exact q3, by rw [World.cell?_setCell_far _ _ _ _ nWa]; exact qa, by rw [World.cell?_setCell_far _ _ _ _ nWl]; exact ql⟩ (fun hHeld => ?_)
    clear hK K
    refine wpAnyH_done (by kernel_rfl) ?_ _
    exact hQ _ _ hn26 (by rw [Hb26.out, put_def, Hb25.out, put_def, Hb24.out, put_def, Hb23.out, put_def, Hb22.out, put_def, Hb21.out, put_def, Hb20.out, put_def, Hb19.out, put_def, Hb18.out, put_def, Hb17.out, put_def, Hb16.out, put_def, Hb15.out, put_def, Hb14.out, put_def, Hb13.out, put_def, Hb12.out, put_def, Hb11.out, put_def, Hb10.out, put_def, Hb9.out, put_def, Hb8.out, put_def, Hb7.out, put_def, Hb6.out, put_def, Hb5.out, put_def, Hb4.out, put_def, Hb3.out, put_def, Hb2.out, put_def, Hb1.out, put_def]) _ H7.out P7.out
end Go.Proofs.Ytcebafeaikipmaa.S15

namespace Go.Proofs.Ytcebafeaikipmaa.S15
open Go.RowKit

theorem swp_length (l : List Nat) (i j : Nat) : (swp l i j).length = l.length := by simp [swp]
theorem turnL_length (l : List Nat) (x : Nat) : (turnL l x).length = l.length := by unfold turnL; split <;> simp [swp_length]
theorem swp_mem {l : List Nat} {i j : Nat} (hi : i < l.length) (hj : j < l.length) {y : Nat} (h : y ∈ swp l i j) : y ∈ l := by
  unfold swp at h
  rcases List.mem_or_eq_of_mem_set h with h | h
  · rcases List.mem_or_eq_of_mem_set h with h | h
    · exact h
    · rw [h]; simp [hj]
  · rw [h]; simp [hi]
theorem turnL_mem {l : List Nat} {x y : Nat} (h2 : 2 ≤ l.length) (h : y ∈ turnL l x) : y ∈ l := by
  unfold turnL at h
  split at h
  · exact swp_mem (by omega) (by omega) h
  · exact h
theorem findF_succ {v : List Nat} {l : List Nat} {k : Nat} (hk : k < l.length) : findF v (l.drop k) k = if v.getD l[k] 0 = 2 then findF v (l.drop (k + 1)) (k + 1) else some k := by
  rw [List.drop_eq_getElem_cons hk, findF]
/-- what look does once the false one of the two watched is put last -/
def lookT (s : St) (c : Nat) : St × Bool × Bool :=
  if s.val ((s.cl c).lits.getD 0 0) = 1 then (s, false, true)
  else match findF s.value ((s.cl c).lits.drop 2) 2 with
    | some i => (pushW (setL s c (swp (s.cl c).lits 1 i)) ((swp (s.cl c).lits 1 i).getD 1 0) c, true, true)
    | none => if s.val ((s.cl c).lits.getD 0 0) = 2 then (s, false, false) else (setS s ((s.cl c).lits.getD 0 0) (some c), false, true)
theorem lookS_eq (s : St) {c : Nat} (hc : c < s.cls.length) (x : Nat) : lookS s c x = lookT (setL s c (turnL (s.cl c).lits x)) c := by
  unfold lookS lookT
  simp only
  rw [cl_setL s hc]
  rfl
set_option maxRecDepth 100000 in
set_option maxHeartbeats 60000000 in
theorem look_any {w : World} {B S : Nat} {ad : List Nat} {vl : Rl → Value} {s : St} (h : SAt w B S ad vl s) (hp : Shp s) (c : Nat) (hc : c < s.cls.length) (h2 : 2 ≤ (s.cl c).lits.length) (hok : ∀ y ∈ (s.cl c).lits, okL s.vars y) (x : Nat) (ht : s.trail.length ≤ 10000) (M : Nat) (hM : ∀ i, (s.watch.getD i []).length ≤ M) (hMl : M ≤ 1000000000) :
    Calls Try.prog 62 #[.pointer (some ⟨S, 0, none⟩), pC ad c, .int .i64 (x : Int)] w fun e w' => e = .returned (.tuple #[.bool (lookS s c x).2.1, .bool (lookS s c x).2.2]) ∧ ∃ vl', SAt w' B S ad vl' (lookS s c x).1 ∧ Stp w B S ad vl w' ad vl' ∧ ∀ z, s.val z = 2 → vl' (.wr z) = vl (.wr z) := by
  rw [lookS_eq s hc x]
  obtain ⟨L, hL⟩ : ∃ L, L = (s.cl c).lits := ⟨_, rfl⟩
  rw [← hL] at h2 hok ⊢
  obtain ⟨gl, cl, hli, -, hgl, hcl, hcl2⟩ := (h.rows (.li c)).form (by simp [cont, ← hL]; omega)
  simp only [cont, List.length_map, ← hL] at hli hcl
  have hcl3 : cl ≤ 9223372036854775807 := by unfold maxLen at hcl2; omega
  clear hcl2
  have c0 : w.cell? ⟨ad.getD c 0, 0, none⟩ = some (vl (.li c)) := h.cellC (k := 0) hc rfl
  rw [hli] at c0
  have eL := h.rows (.li c)
  rw [hli] at eL
  have d0 : w.cell? ⟨gl, 0, none⟩ = some (.int .i64 (L.getD 0 0 : Nat)) := eL.cell (by simp [cont, ← hL]; rw [List.getElem?_eq_getElem (by omega)]; simp)
  have d1 : w.cell? ⟨gl, 1, none⟩ = some (.int .i64 (L.getD 1 0 : Nat)) := eL.cell (by simp [cont, ← hL]; rw [List.getElem?_eq_getElem (by omega)]; simp)
  have fl := eL.frozen
  have nAl : gl ≠ ad.getD c 0 := h.neC (.li c) (by rw [hli]; rfl) hc
  have hal := (Array.getElem?_eq_some_iff.1 (h.cl c hc)).1
  obtain ⟨a, ha⟩ : ∃ a, a = ad.getD c 0 := ⟨_, rfl⟩
  have Ha := Lib.hid (show pC ad c = .pointer (some ⟨a, 0, none⟩) by rw [ha]; rfl)
  rw [Ha.out]
  rw [← ha] at c0 nAl hal
  obtain ⟨l0, hl0⟩ : ∃ l0, L.getD 0 0 = l0 := ⟨_, rfl⟩
  obtain ⟨l1, hl1⟩ : ∃ l1, L.getD 1 0 = l1 := ⟨_, rfl⟩
  rw [hl0] at d0
  rw [hl1] at d1
  have hL0 : (s.cl c).lits.getD 0 0 = l0 := by rw [← hL]; exact hl0
  have hL1 : (s.cl c).lits.getD 1 0 = l1 := by rw [← hL]; exact hl1
  obtain ⟨R, hR⟩ : ∃ R, R = lookT (setL s c (turnL L x)) c := ⟨_, rfl⟩
  rw [← hR]
  have hsw := h.swap hc hli 0 1 hL0 hL1
  rw [← hL] at hsw
  have Hsw := Lib.hid hsw
  have H := Lib.hid h
  have Hp := Lib.hid hp
  have Hok := Lib.hid hok
  have HM := Lib.hid hM
  have Hli := Lib.hid hli
  have HL := Lib.hid hL
  clear h hp hM hok hL hli eL ha hL0 hL1 hsw
  have HR := Lib.hid hR
  have Hl0 := Lib.hid hl0
  obtain ⟨T, hT⟩ : ∃ T, T = setL s c (turnL L x) := ⟨_, rfl⟩
  rw [← hT] at HR
  have HT := Lib.hid hT
  clear hR hl0 hl1 hT
  go_enter Try.func62, Try.ntmps62
  go_upto_if 17 with fail
  go_cut [] (fun wx => Hid (SAt wx B S ad vl T) ∧ Hid (Stp w B S ad vl wx ad vl))
  case first =>
    by_cases hx : l0 = x
    · have Htt := Lib.hid (show T = setL s c (swp L 0 1) by rw [HT.out]; unfold turnL; rw [Hl0.out, if_pos hx])
      have z0 : (((l0 : Nat) : Int) == (x : Int)) = true := by rw [hx]; exact beq_self_eq_true _
      rw [z0]
      clear hx
      go_wp2_with fail
      go_region
      go_wp2_with fail
      go_meet
      case rel =>
        rw [Htt.out]
        exact ⟨Lib.hid (Hsw.out.1.new (Below.refl _ _).drew), Lib.hid (Hsw.out.2.trans (Hsw.out.1.stpNew (Below.refl _ _).drew))⟩
    · have Htt := Lib.hid (show T = s by rw [HT.out]; unfold turnL; rw [Hl0.out, if_neg hx, HL.out, setL_self])
      have z0 : (((l0 : Nat) : Int) == (x : Int)) = false := beq_eq_false_iff_ne.2 (by omega)
      rw [z0]
      clear hx
      go_wp2_with fail
      go_meet
      case rel =>
        rw [Htt.out]
        exact ⟨H, Lib.hid (Stp.refl _ _ _ _ _)⟩
  case rest =>
    obtain ⟨HT1, PT1⟩ := hcut
    obtain ⟨L', hL'⟩ : ∃ L', L' = turnL L x := ⟨_, rfl⟩
    have hTl : (T.cl c).lits = L' := by rw [HT.out, cl_setL s hc, hL']
    have hln : L'.length = L.length := by rw [hL', turnL_length]
    have hoL : ∀ y ∈ L', okL s.vars y := fun y hy => Hok.out y (turnL_mem h2 (hL' ▸ hy))
    have hTc : c < T.cls.length := by rw [HT.out, len_setL]; exact hc
    have hTv : T.value.length = 2 * (s.vars + 1) := by rw [HT.out]; exact Hp.out.va
    have hTw : T.watch = s.watch := by rw [HT.out]; rfl
    have hTle : T.level.length = s.vars + 1 := by rw [HT.out]; exact Hp.out.le
    have hTre : T.reason.length = s.vars + 1 := by rw [HT.out]; exact Hp.out.re
    have hTt : T.trail.length ≤ 10000 := by rw [HT.out]; exact ht
    have HTval := Lib.hid (show ∀ z, s.val z = 2 → T.val z = 2 by rw [HT.out]; exact fun _ h => h)
    have hsm := Hp.out.sm
    obtain ⟨n, hn⟩ : ∃ n, n = L.length := ⟨_, rfl⟩
    rw [← hn] at hln hcl h2 Hli
    have HoL := Lib.hid hoL
    have HTl := Lib.hid hTl
    have HTw := Lib.hid hTw
    clear hn hTl hoL hL' hTw c0 d0 d1 fl hgl hal HT Hsw H Hok HL Hl0
    obtain ⟨gv, cv, hva, -, hgv, -, -⟩ := (HT1.out.rows .va).form (by simp [cont]; omega)
    simp only [cont, List.length_map] at hva
    have Hva := Lib.hid hva
    have nvS := HT1.out.neS .va (g := gv) (by rw [hva]; rfl)
    clear hva hgv
    obtain ⟨f, hf⟩ : ∃ f, f = L'.getD 0 0 := ⟨_, rfl⟩
    have hfm : f ∈ L' := by rw [hf, List.getD_eq_getElem?_getD, List.getElem?_eq_getElem (by omega)]; simp
    have hfo := HoL.out f hfm
    have HTv := Lib.hid hTv
    have HTle := Lib.hid hTle
    have HTre := Lib.hid hTre
    have Hln := Lib.hid hln
    -- the cells that are read, in whatever world
    have HC := Lib.hid (fun wr (hr : SAt wr B S ad vl T) => show wr.cell? ⟨a, 0, none⟩ = some (.slice (some ⟨gl, 0, none⟩) n cl) ∧ wr.cell? ⟨S, 4, none⟩ = some (.slice (some ⟨gv, 0, none⟩) T.value.length cv) ∧ (∀ k (hk : k < n), wr.cell? ⟨gl, k, none⟩ = some (.int .i64 (L'.getD k 0 : Nat))) ∧ (∀ y, y < T.value.length → wr.cell? ⟨gv, y, none⟩ = some (.int .u8 (T.val y : Nat))) by
      have hln := Hln.out
      refine ⟨?_, ?_, fun k hk => ?_, fun y hy => ?_⟩
      · have := hr.cellC (k := 0) hTc (v := vl (.li c)) rfl
        have e : ad.getD c 0 = a := by have := Ha.out; unfold pC at this; simpa using this
        rw [e, Hli.out] at this
        exact this
      · have := hr.cellS (k := 4) (v := vl .va) rfl
        rw [Hva.out] at this
        exact this
      · have e := hr.rows (.li c)
        rw [Hli.out] at e
        exact e.cell (by simp only [cont, HTl.out, List.getElem?_map, List.getD_eq_getElem?_getD]; rw [List.getElem?_eq_getElem (by omega)]; rfl)
      · have e := hr.rows .va
        rw [Hva.out] at e
        exact e.cell (by simp only [cont, List.getElem?_map, St.val, List.getD_eq_getElem?_getD]; rw [List.getElem?_eq_getElem hy]; rfl))
    obtain ⟨k0, k4, kl, kv⟩ := HC.out wc HT1.out
    have d0 := kl 0 (by omega)
    rw [← hf] at d0
    have hfl : f < T.value.length := by rw [HTv.out]; exact hfo.2
    have dv := kv f hfl
    obtain ⟨v0, hv0⟩ : ∃ v0, v0 = T.val f := ⟨_, rfl⟩
    rw [← hv0] at dv
    clear k4 kl kv
    have k4 := (HC.out wc HT1.out).2.1
    have hR := HR.out
    unfold lookT at hR
    rw [HTl.out, ← hf, ← hv0] at hR
    have HRx := Lib.hid hR
    have Hf := Lib.hid hf
    have Hv0 := Lib.hid hv0
    clear hR hf hv0 HR hfm hTv hTle hTre hln
    by_cases hv1 : v0 = 1
    · have Hres := Lib.hid (show R = (T, false, true) by rw [HRx.out, if_pos hv1])
      have z1 : (((v0 : Nat) : Int) == 1) = true := by rw [hv1]; rfl
      clear hv1 HRx
      go_wp2
      go_ret2
      rw [Hres.out]
      exact ⟨rfl, _, HT1.out, PT1.out, fun _ _ => rfl⟩
    · have z1 : (((v0 : Nat) : Int) == 1) = false := beq_eq_false_iff_ne.2 (by omega)
      have HRy := Lib.hid (HRx.out.trans (if_neg hv1))
      clear hv1 HRx
      go_wp2
      clear k0 k4 d0 dv
      go_loopw [9] (fun kv wr => ∃ k : Nat, 2 ≤ k ∧ k ≤ n ∧ kv = .int .i64 k ∧ Hid (SAt wr B S ad vl T) ∧ Hid (Stp w B S ad vl wr ad vl) ∧ Hid (findF T.value (L'.drop 2) 2 = findF T.value (L'.drop k) k)) (fun kv _ => n - (intOf kv).toNat)
      case atStart => exact ⟨2, by omega, by omega, rfl, HT1, PT1, Lib.hid rfl⟩
      case round =>
        obtain ⟨k, hk2, hkle, rfl, HK, PK, HF⟩ := hrel
        obtain ⟨k0, k4, kl, kv⟩ := HC.out wr HK.out
        rcases Nat.lt_or_ge k n with hk | hk
        · have hln := Hln.out
          have dk := kl k hk
          obtain ⟨y, hy⟩ : ∃ y, y = L'.getD k 0 := ⟨_, rfl⟩
          have hye : y = L'[k] := by rw [hy, List.getD_eq_getElem?_getD, List.getElem?_eq_getElem (by omega)]; rfl
          have hyo := HoL.out y (by rw [hye]; exact List.getElem_mem _)
          have hyl : y < T.value.length := by rw [HTv.out]; exact hyo.2
          have dy := kv y hyl
          rw [← hy] at dk
          have HF2 := HF.out.trans (findF_succ (by omega))
          rw [← hye] at HF2
          obtain ⟨vy, hvy⟩ : ∃ vy, vy = T.val y := ⟨_, rfl⟩
          rw [← hvy] at dy
          have HF2 : findF T.value (L'.drop 2) 2 = if vy = 2 then findF T.value (L'.drop (k + 1)) (k + 1) else some k := by rw [hvy]; exact HF2
          have hd1 := kl 1 (by omega)
          have Hy := Lib.hid hy
          have Hvy := Lib.hid hvy
          clear hye hvy kl kv hln
          by_cases hv2 : vy = 2
          · have HF3 := Lib.hid (HF2.trans (if_pos hv2))
            have z2 : (((vy : Nat) : Int) != 2) = false := by rw [hv2]; rfl
            clear HF2 hv2 hy
            go_wp2
            go_quiet (fail)
            go_wp2
            go_roundw
            case rel => exact ⟨k + 1, by omega, by omega, by go_num, Lib.hid (HK.out.new (below_drewN (Below.refl _ _) _)), Lib.hid (PK.out.trans (HK.out.stpNew (below_drewN (Below.refl _ _) _))), HF3⟩
            case measure => simp [intOf]; omega
          · as_aux_lemma =>
              have HF3 := HF2.trans (if_neg hv2)
              have HVn := Lib.hid (show vy = 2 → False from hv2)
              have z2 : (((vy : Nat) : Int) != 2) = true := bne_iff_ne.2 (by omega)
              have hres := HRy.out
              rw [HF3] at hres
              clear HF2 HF3 hv2
              obtain ⟨l1, hl1⟩ : ∃ l1, l1 = L'.getD 1 0 := ⟨_, rfl⟩
              rw [← hl1] at hd1
              have hsw1 : (swp L' 1 k).getD 1 0 = y := by
                have hln := Hln.out
                unfold swp
                rw [← hy, List.getD_eq_getElem?_getD, List.getElem?_set_ne (show k ≠ 1 by omega), List.getElem?_set_self (show 1 < L'.length by omega)]
                rfl
              have Hres := Lib.hid (show R = (pushW (setL T c (swp L' 1 k)) y c, true, true) by rw [hres]; show (pushW (setL T c (swp L' 1 k)) ((swp L' 1 k).getD 1 0) c, true, true) = _; rw [hsw1])
              have HN := Lib.hid (fun nd => (HK.out.new (below_drewN (Below.refl wr.heap.size wr) nd)).swap (a := l1) (b := y) hTc Hli.out 1 k (by rw [HTl.out]; exact hl1.symm) (by rw [HTl.out]; exact hy.symm))
              rw [HTl.out] at HN
              have flk := (show OwnG wr B (ty (.li c)) (.slice (some ⟨gl, 0, none⟩) n cl) _ from Hli.out ▸ HK.out.rows (.li c)).frozen
              have nAl2 : gl ≠ a := nAl
              clear hres hsw1 hl1 hy
              go_wp2
              go_quiet (fail)
              go_wp2
              go_region
              obtain ⟨w3, hw3⟩ : ∃ w3, w3 = ((wr.drewN (nq + 1)).setCell ⟨gl, 1, none⟩ (.int .i64 (y : Int))).setCell ⟨gl, k, none⟩ (.int .i64 (l1 : Int)) := ⟨_, rfl⟩
              obtain ⟨hn1, hn2⟩ := HN.out (nq + 1)
              have H3 := Lib.hid (show SAt w3 B S ad vl (setL T c (swp L' 1 k)) by rw [hw3]; exact hn1)
              have P3 := Lib.hid (show Stp w B S ad vl w3 ad vl by rw [hw3]; exact ((PK.out.trans (HK.out.stpNew (below_drewN (Below.refl _ _) _))).trans hn2))
              rw [← hw3]
              clear hw3 hn1 hn2 k0 k4 dk dy hd1 HN flk
              obtain ⟨T2, hT2⟩ : ∃ T2, T2 = setL T c (swp L' 1 k) := ⟨_, rfl⟩
              rw [← hT2] at H3 Hres
              have hTl2 : (T2.cl c).lits = swp L' 1 k := by rw [hT2, cl_setL T hTc]
              have hTc2 : c < T2.cls.length := by rw [hT2, len_setL]; exact hTc
              have hTw2 : T2.watch = s.watch := by rw [hT2]; exact HTw.out
              have hy3 : y < T2.watch.length := by rw [hTw2, Hp.out.wt]; exact hyo.2
              obtain ⟨Q, hQ⟩ : ∃ Q, Q = T2.watch.getD y [] := ⟨_, rfl⟩
              have hln2 : Q.length ≤ 1000000000 := by rw [hQ, hTw2]; have := HM.out y; omega
              have HcQ := Lib.hid (show cont T2 ad vl (.wr y) = Q.map (pC ad) by rw [hQ]; rfl)
              obtain ⟨gw, cw, hwt, -, hgw, -, -⟩ := (H3.out.rows .wt).form (by simp [cont]; omega)
              simp only [cont, List.length_map, List.length_range] at hwt
              have Hwt := Lib.hid hwt
              have c3 := H3.out.cellS (k := 3) (v := vl .wt) rfl
              rw [hwt] at c3
              have ca : w3.cell? ⟨a, 0, none⟩ = some (.slice (some ⟨gl, 0, none⟩) n cl) := by
                have := H3.out.cellC (k := 0) hTc2 (v := vl (.li c)) rfl
                have e : ad.getD c 0 = a := by have := Ha.out; unfold pC at this; simpa using this
                rw [e, Hli.out] at this
                exact this
              have eL3 := H3.out.rows (.li c)
              rw [Hli.out] at eL3
              have cy : w3.cell? ⟨gl, 1, none⟩ = some (.int .i64 (y : Int)) := eL3.cell (by
                have hln := Hln.out
                simp only [cont, hTl2, List.getElem?_map]
                unfold swp
                rw [← Hy.out, List.getElem?_set_ne (show k ≠ 1 by omega), List.getElem?_set_self (show 1 < L'.length by omega)]
                rfl)
              have eW := H3.out.rows .wt
              rw [hwt] at eW
              obtain ⟨Ar, cr, hwr⟩ := (H3.out.rows (.wr y)).shape
              rw [HcQ.out, List.length_map] at hwr
              have Hwr := Lib.hid hwr
              have dw : w3.cell? ⟨gw, y, none⟩ = some (.slice Ar Q.length cr) := by
                rw [← hwr]
                exact eW.cell (by simp [cont, hy3])
              have hO := H3.out.rows (.wr y)
              rw [hwr, HcQ.out] at hO
              have HO := Lib.hid (show OwnG w3 B 96 (.slice Ar Q.length cr) (Q.map (pC ad)) from hO)
              have nWS : gw ≠ S := H3.out.neS .wt (by rw [hwt]; rfl)
              have hea : ad.getD c 0 = a := by have := Ha.out; unfold pC at this; simpa using this
              have nWa : gw ≠ a := by rw [← hea]; exact H3.out.neC .wt (by rw [hwt]; rfl) hTc2
              have nWl : gw ≠ gl := fun e => by
                have := H3.out.apart .wt (.li c) gw (by rw [hwt]; rfl) (by rw [Hli.out, e]; rfl)
                cases this
              have nWC : (vl (.wr y)).ownBlock ≠ some a := fun e => H3.out.neC (.wr y) e hTc2 hea.symm
              have nWL : (vl (.wr y)).ownBlock ≠ some gl := fun e => by
                have := H3.out.apart (.wr y) (.li c) gl e (by rw [Hli.out]; rfl)
                cases this
              have hsz := H3.out.size
              have hSl := H3.out.lt
              have hal3 : a < w3.heap.size := by rw [← hea]; exact (Array.getElem?_eq_some_iff.1 (H3.out.cl c hTc2)).1
              have hgl3 : gl < w3.heap.size := ((H3.out.rows (.li c)).lt gl (by rw [Hli.out]; rfl)).2
              clear eL3 eW hwt hwr hO hQ hT2 hTl2 hTw2 hea
              have h1n : (1 : Int) < (n : Int) := by omega
              go_wp2_with fail
              refine look_push H3 (by rfl) (by rfl) (by rfl) c3 ca cy dw h2 hcl hcl3 h1n hy3 hln2 Hwt Hwr HcQ HO Ha nWS nWa nWl nWC nWL hsz hSl hal3 hgl3 (fun _ _ _ _ _ h => h) (fun b w9 hbn hbd v h9 p9 => ?_)
              have H9 := Lib.hid h9
              have P9 := Lib.hid (P3.out.trans p9)
              clear h9 p9 c3 ca cy dw H3 P3
              go_wp2
              refine bodyPost_ret (v := .tuple #[.bool true, .bool true]) (by simp [results, Try.results62, go_sem, hbn]) rfl ?_
              rw [Hres.out]
              exact ⟨rfl, _, H9.out, P9.out, fun z hz => updV_ne _ _ (fun e => by injection e with e; exact HVn.out (Hvy.out.trans (e ▸ HTval.out z hz)))⟩
        · obtain rfl : k = n := by omega
          have hdn : L'.drop L'.length = [] := List.drop_length
          have hln := Hln.out
          have hres := HRy.out
          rw [HF.out, ← hln, hdn] at hres
          have hd0 := kl 0 (by omega)
          have dv := kv f hfl
          rw [← Hv0.out] at dv
          clear kl kv hdn hd0 hln
          by_cases hv2 : v0 = 2
          · have Hres := Lib.hid (show R = (T, false, false) by rw [hres]; show (if v0 = 2 then _ else _) = _; rw [if_pos hv2])
            have z2 : (((v0 : Nat) : Int) == 2) = true := by rw [hv2]; rfl
            clear hres hv2
            go_wp2
            go_ret2
            rw [Hres.out]
            exact ⟨rfl, _, HK.out, PK.out, fun _ _ => rfl⟩
          · have Hres := Lib.hid (show R = (setS T f (some c), false, true) by rw [hres]; show (if v0 = 2 then _ else _) = _; rw [if_neg hv2])
            have z2 : (((v0 : Nat) : Int) == 2) = false := beq_eq_false_iff_ne.2 (by omega)
            have hfo2 := okL_nt hfo
            have HS := Lib.hid (set_any HK.out f (some c) hfl (by rw [HTv.out]; exact hfo2.2) (by rw [HTle.out]; have := hfo.2; omega) (by rw [HTre.out]; have := hfo.2; omega) (by rw [HTv.out]; omega) (by omega))
            have hoc : oC ad (some c) = .pointer (some ⟨a, 0, none⟩) := by rw [← Ha.out]; rfl
            rw [hoc] at HS
            clear hres hv2
            go_wp2_with (go_at_call 48; with_reducible refine HS.out.mono ?_; rintro e w9 ⟨rfl, v9, h9, p9⟩; (have H9 := Lib.hid h9; have P9 := Lib.hid (PK.out.trans p9); clear h9 p9))
            go_ret2
            rw [Hres.out]
            exact ⟨rfl, _, H9.out, P9.out, fun z _ => updV_ne _ _ (fun e => by cases e)⟩
end Go.Proofs.Ytcebafeaikipmaa.S15
