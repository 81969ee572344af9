/- The clauses of a deal: plain law. / The question of a deal: what the program computes. -/
import Derived.Test.YtcebafeaikipmaaCa2
namespace Go.Proofs.Ytcebafeaikipmaa
open Go.RowKit

def wantCl (i : Nat) (w : List Int) : List Int := -((i : Int) + 1) :: w.map (· + 1)
def wcls : List (List (List Int)) → Nat → List (List Int)
  | [], _ => []
  | ws :: r, i => ws.map (wantCl i) ++ wcls r (i + 1)
theorem wcls_append (a : List (List (List Int))) (x : List (List Int)) (i : Nat) : wcls (a ++ [x]) i = wcls a i ++ x.map (wantCl (i + a.length)) := by
  induction a generalizing i with
  | nil => simp [wcls]
  | cons y a ih => simp only [List.cons_append, wcls, ih, List.length_cons, List.append_assoc]; rw [show i + 1 + a.length = i + (a.length + 1) by omega]
theorem wcls_succ {wss : List (List (List Int))} {k : Nat} (h : k < wss.length) : wcls (wss.take (k + 1)) 0 = wcls (wss.take k) 0 ++ wss[k].map (wantCl k) := by
  rw [List.take_succ_eq_append_getElem h, wcls_append]
  simp [Nat.min_eq_left (Nat.le_of_lt h)]
def kAt (items : List ItemD) (i : Nat) : KeyD := keyAt items (i : Int)
def pairCl (i k : Nat) : List Int := [-((i : Int) + 1), -((k : Int) + 1)]
def pairsAt (items : List ItemD) (i m : Nat) : List (List Int) := ((List.range m).filter fun k => decide (i < k) && decide (kAt items i = kAt items k)).map (pairCl i)
def pairsTo (items : List ItemD) (m : Nat) : List (List Int) := (List.range m).flatMap fun i => pairsAt items i items.length
theorem pairsAt_succ (items : List ItemD) (i m : Nat) : pairsAt items i (m + 1) = pairsAt items i m ++ (if decide (i < m) && decide (kAt items i = kAt items m) then [pairCl i m] else []) := by
  unfold pairsAt
  rw [List.range_succ, List.filter_append, List.map_append]
  congr 1
  cases h : (decide (i < m) && decide (kAt items i = kAt items m)) <;> simp [h]
theorem pairsTo_succ (items : List ItemD) (m : Nat) : pairsTo items (m + 1) = pairsTo items m ++ pairsAt items m items.length := by
  simp [pairsTo, List.range_succ]
theorem pairsAt_le (items : List ItemD) (i : Nat) : ∀ m, m ≤ i + 1 → pairsAt items i m = []
  | 0, _ => rfl
  | m + 1, h => by rw [pairsAt_succ, pairsAt_le items i m (by omega)]; simp [show ¬ i < m by omega]
def headCls (r : Int) (wss : List (List (List Int))) : List (List Int) := [r + 1] :: wcls wss 0
def allCls (items : List ItemD) (wss : List (List (List Int))) (r : Int) : List (List Int) := headCls r wss ++ pairsTo items items.length
/-- The places of a key behind one another, from the last on, after c steps. -/
def idxC (items : List ItemD) (key : KeyD) : Nat → List Nat
  | 0 => []
  | c + 1 => if kAt items (items.length - 1 - c) = key then idxC items key c ++ [items.length - 1 - c] else idxC items key c
theorem idxC_length (items : List ItemD) (key : KeyD) : ∀ c, (idxC items key c).length ≤ c
  | 0 => Nat.le_refl _
  | c + 1 => by have := idxC_length items key c; unfold idxC; split <;> simp <;> omega
theorem idxC_reverse (items : List ItemD) (key : KeyD) : ∀ c, c ≤ items.length → (idxC items key c).reverse = (List.range' (items.length - c) c).filter fun k => decide (kAt items k = key)
  | 0, _ => rfl
  | c + 1, h => by
    have ih := idxC_reverse items key c (by omega)
    rw [List.range'_succ]
    unfold idxC
    have e : items.length - (c + 1) = items.length - 1 - c := by omega
    rw [List.filter_cons, e, show items.length - 1 - c + 1 = items.length - c by omega]
    by_cases hk : kAt items (items.length - 1 - c) = key
    · rw [if_pos hk, if_pos (by simpa using hk), List.reverse_append, ih]; rfl
    · rw [if_neg hk, if_neg (by simpa using hk), ih]
theorem idxC_mem {items : List ItemD} {i : Nat} (h : i < items.length) : i ∈ idxC items (kAt items i) items.length := by
  rw [← List.mem_reverse, idxC_reverse _ _ _ (Nat.le_refl _)]
  simp [h]
/-- The clauses of a place out of the row of its key, the last q of the row looked at. -/
def behindCls (i : Nat) (l : List Nat) (q : Nat) : List (List Int) := ((l.reverse.take q).filter fun k => decide (i < k)).map (pairCl i)
theorem behindCls_all (items : List ItemD) (i : Nat) : behindCls i (idxC items (kAt items i) items.length) (idxC items (kAt items i) items.length).length = pairsAt items i items.length := by
  unfold behindCls pairsAt
  rw [← List.length_reverse, List.take_length, idxC_reverse _ _ _ (Nat.le_refl _), List.filter_filter, Nat.sub_self, List.range_eq_range']
  congr 1
  apply List.filter_congr
  intro k _
  congr 1
  exact decide_eq_decide.2 ⟨fun h => h.symm, fun h => h.symm⟩
theorem behindCls_succ {i : Nat} {l : List Nat} {q : Nat} (h : q < l.length) : behindCls i l (q + 1) = behindCls i l q ++ (if i < l[l.length - 1 - q] then [pairCl i l[l.length - 1 - q]] else []) := by
  unfold behindCls
  rw [List.take_succ_eq_append_getElem (by simpa using h), List.filter_append, List.map_append, List.getElem_reverse]
  congr 1
  by_cases hk : i < l[l.length - 1 - q] <;> simp [hk]
/-- What the maker was asked for: all of it, or already too many of it. -/
def Upto (cs all : List (List Int)) : Prop := cs = all ∨ (16384 < cs.length ∧ cs <+: all)
theorem Upto.more {cs all b : List (List Int)} (h : Upto cs all) (hb : 16384 < cs.length) : Upto cs (all ++ b) := by
  rcases h with rfl | ⟨h1, h2⟩
  · exact .inr ⟨hb, List.prefix_append _ _⟩
  · exact .inr ⟨h1, h2.trans (List.prefix_append _ _)⟩
theorem Upto.push {cs all : List (List Int)} {c : List Int} (h : Upto cs all) (hb : ¬ 16384 < cs.length) : Upto (cs ++ [c]) (all ++ [c]) := by
  rcases h with rfl | ⟨h1, _⟩
  · exact .inl rfl
  · exact absurd h1 hb
theorem Upto.pre {cs a b : List (List Int)} (h : Upto cs a) (hp : a <+: b) (hb : 16384 < cs.length) : Upto cs b := by
  rcases h with rfl | ⟨h1, h2⟩
  · exact .inr ⟨hb, hp⟩
  · exact .inr ⟨h1, h2.trans hp⟩
theorem behindCls_pre (i : Nat) (l : List Nat) (q : Nat) : behindCls i l q <+: behindCls i l l.length := by
  unfold behindCls
  rw [← List.length_reverse, List.take_length]
  exact ((List.take_prefix _ _).filter _).map _
/-- The deal isn't great. -/
def lightW (wss : List (List (List Int))) : Prop := ∀ ws ∈ wss, ws.length ≤ 10 ∧ ∀ w ∈ ws, w.length ≤ 40
theorem lightW_of {n0 : Nat} {wss : List (List (List Int))} (h : lightB n0 wss = true) : lightW wss := by
  intro ws hws
  simp only [lightB, Bool.and_eq_true, List.all_eq_true] at h
  have := h.2 ws hws
  simp only [lightR, Bool.and_eq_true, List.all_eq_true, decide_eq_true_eq] at this
  exact this
theorem wcls_len {wss : List (List (List Int))} (h : lightW wss) : ∀ i, (wcls wss i).length ≤ 10 * wss.length := by
  induction wss with
  | nil => intro i; simp [wcls]
  | cons ws r ih =>
    intro i
    have h1 := (h ws (by simp)).1
    have := ih (fun x hx => h x (by simp [hx])) (i + 1)
    simp [wcls]; omega
theorem mem_wcls {wss : List (List (List Int))} {c : List Int} : ∀ {i : Nat}, c ∈ wcls wss i → ∃ (k : Nat) (h : k < wss.length) (w : List Int), w ∈ wss[k] ∧ c = wantCl (i + k) w := by
  induction wss with
  | nil => intro i h; simp [wcls] at h
  | cons ws r ih =>
    intro i h
    simp only [wcls, List.mem_append, List.mem_map] at h
    rcases h with ⟨w, hw, rfl⟩ | h
    · exact ⟨0, by simp, w, hw, rfl⟩
    · obtain ⟨k, hk, w, hw, rfl⟩ := ih h
      exact ⟨k + 1, by simpa using hk, w, by simpa using hw, by rw [show i + 1 + k = i + (k + 1) by omega]⟩
theorem mem_pairsTo {items : List ItemD} {m : Nat} {c : List Int} (h : c ∈ pairsTo items m) : ∃ i k : Nat, i < m ∧ i < k ∧ k < items.length ∧ kAt items i = kAt items k ∧ c = pairCl i k := by
  simp only [pairsTo, pairsAt, List.mem_flatMap, List.mem_range, List.mem_map, List.mem_filter, Bool.and_eq_true, decide_eq_true_eq] at h
  obtain ⟨i, hi, k, ⟨hk, h1, h2⟩, rfl⟩ := h
  exact ⟨i, k, hi, h1, hk, h2, rfl⟩
theorem mem_allCls {items : List ItemD} {wss : List (List (List Int))} {r : Int} {c : List Int} (h : c ∈ allCls items wss r) :
    c = [r + 1] ∨ (∃ (k : Nat) (h : k < wss.length) (w : List Int), w ∈ wss[k] ∧ c = wantCl k w) ∨ ∃ i k : Nat, i < k ∧ k < items.length ∧ kAt items i = kAt items k ∧ c = pairCl i k := by
  simp only [allCls, headCls, List.cons_append, List.mem_cons, List.mem_append] at h
  rcases h with rfl | h | h
  · exact .inl rfl
  · obtain ⟨k, hk, w, hw, rfl⟩ := mem_wcls h
    exact .inr (.inl ⟨k, hk, w, hw, by simp⟩)
  · obtain ⟨i, k, _, h1, h2, h3, rfl⟩ := mem_pairsTo h
    exact .inr (.inr ⟨i, k, h1, h2, h3, rfl⟩)
end Go.Proofs.Ytcebafeaikipmaa
namespace Go.Proofs.Ytcebafeaikipmaa
/-- No limit of sat.May is passed. -/
theorem satMay_all {items : List ItemD} {wss : List (List (List Int))} {r : Int} (hmay : mayN items.length r wss = 0) (hl : lightW wss) (hlen : (allCls items wss r).length ≤ 16384) : satMayN items.length (allCls items wss r) = 0 := by
  obtain ⟨h1, h2, h3, h4⟩ := mayN_zero hmay
  have hr := isItemB_iff.1 h2
  have hv := validW_of h4
  have hsz : ∀ c ∈ allCls items wss r, c.length ≤ 41 ∧ ∀ x ∈ c, badLit items.length x = false := by
    intro c hc
    rcases mem_allCls hc with rfl | ⟨k, hk, w, hw, rfl⟩ | ⟨i, k, hik, hk, _, rfl⟩
    · refine ⟨by simp, fun x hx => ?_⟩
      simp at hx; subst hx
      simp [badLit]; omega
    · have hwl := (hl _ (List.getElem_mem hk)).2 w hw
      refine ⟨by simp [wantCl]; omega, fun x hx => ?_⟩
      simp only [wantCl, List.mem_cons, List.mem_map] at hx
      rcases hx with rfl | ⟨y, hy, rfl⟩
      · simp [badLit]; omega
      · have := hv k hk w hw y hy
        simp [badLit]; omega
    · refine ⟨by simp [pairCl], fun x hx => ?_⟩
      simp only [pairCl, List.mem_cons, List.not_mem_nil, or_false] at hx
      rcases hx with rfl | rfl <;> (simp [badLit]; omega)
  unfold satMayN
  rw [if_neg (by omega), if_neg, if_neg (by omega), if_neg]
  · simp only [Bool.not_eq_true, List.any_eq_false]
    intro c hc x hx
    simp [(hsz c hc).2 x hx]
  · simp only [Bool.not_eq_true, List.any_eq_false, decide_eq_true_eq]
    intro c hc
    have := (hsz c hc).1
    omega
end Go.Proofs.Ytcebafeaikipmaa

namespace Go.Proofs.Ytcebafeaikipmaa
open Go.RowKit

/-- What Encode answers: variables, clauses, error. -/
def encR (items : List ItemD) (wss : List (List (List Int))) (r : Int) : Int × List (List Int) × Int :=
  if mayN items.length r wss ≠ 0 then (0, [], errOf (mayN items.length r wss)) else if 16384 < (allCls items wss r).length then (0, [], 2) else (items.length, allCls items wss r, 0)
def EncodePost (items : List ItemD) (wss : List (List (List Int))) (r : Int) (w : World) (e : Ending) (w' : World) : Prop :=
  ∃ s, e = .returned (.tuple #[.agg #[.int .i64 (encR items wss r).1, s], .int .i64 (encR items wss r).2.2]) ∧ RIntss w' (Lt w'.heap.size) s (encR items wss r).2.1 ∧ Below w.heap.size w w'
theorem MakerAt.start {w : World} {n0 : Nat} : MakerAt (w.alloc (.cells #[.int .i64 (n0 : Int), .slice none 0 0, .bool false] 77)) w.heap.size n0 none [] :=
  ⟨.slice none 0 0, [], heap_alloc_new w _, by simpa using World.ownsRow_nil _ _ _ _, rfl, fun i h => by simp at h⟩
theorem MakerAt.cells_ {w : World} {g n0 : Nat} {own : Option Nat} {cs : List (List Int)} (h : MakerAt w g n0 own cs) :
    ∃ v, w.cell? ⟨g, 0, none⟩ = some (.int .i64 (n0 : Int)) ∧ w.cell? ⟨g, 1, none⟩ = some v ∧ w.cell? ⟨g, 2, none⟩ = some (.bool (decide (16384 < cs.length))) ∧ (cs.length ≤ 16384 → RIntss w (fun b => g < b ∧ b < w.heap.size) v cs) := by
  have hlt := h.lt
  obtain ⟨v, xs, h1, h2, h3, h4⟩ := h
  refine ⟨v, by rw [cell_of_row _ _ 0 _ _ _ h1]; rfl, by rw [cell_of_row _ _ 1 _ _ _ h1]; rfl, by rw [cell_of_row _ _ 2 _ _ _ h1]; rfl, fun hle => ?_⟩
  rw [show min cs.length 16384 = cs.length by omega] at h2
  exact reads_of_own h2 rfl (fun b hb => by have := h2.lt b hb; omega) fun k hk u hu => RInts.stable.sub (h4 k hk u hu) fun b hb => ⟨hb.2.1, hb.1⟩
/-- The map of the places behind one another, after c steps: block r; the rows lie from block B on. -/
def BehindAt (items : List ItemD) (w : World) (B r c : Nat) : Prop :=
  ∃ f, MapIs encKey w r f ∧ (∀ k, idxC items k c = [] → f k = none) ∧
    (∀ k, idxC items k c ≠ [] → ∃ v, f k = some v ∧ w.ownsRow B 3 1 v (idxC items k c).length ((idxC items k c).map fun i : Nat => Value.int .i64 i)) ∧
    ∀ k1 k2 v1 v2, f k1 = some v1 → f k2 = some v2 → k1 ≠ k2 → v1.ownBlock ≠ v2.ownBlock
theorem keyAt_enc {items : List ItemD} {i : Nat} (h : i < items.length) : encKey (kAt items i) = .agg #[.string items[i].1.1, .string items[i].1.2.1, .string items[i].1.2.2.1, .string items[i].1.2.2.2] := by
  have : kAt items i = items[i].1 := by unfold kAt; rw [keyAt_eq (by simpa using h)]; simp
  rw [this]; rfl
theorem zeroInts (w : World) : (zeroValue 37).run Try.prog w = .ok (.slice none 0 0) w := by kernel_rfl

theorem lit_ints (W : World) (l : List Int) {S : Nat → Prop} {b n : Nat} (hb : b = W.heap.size) (hnl : n = l.length) (hS : S b) (hn : n ≤ 1000000) : RInts (W.alloc (.cells (l.map (Value.int .i64)).toArray 3)) S (.slice (some ⟨b, 0, none⟩) n n) l := by
  subst hb; subst hnl
  have := World.ownsRow_lit (base := W.heap.size) (e := 3) (size := 1) W (l.map (Value.int .i64)).toArray l.length (Nat.le_refl _) (by unfold maxLen; omega) (by simp)
  exact ints_of_own this fun g hg => by simp [Value.ownBlock] at hg; exact hg ▸ hS
theorem BehindAt.row {items : List ItemD} {w : World} {B c : Nat} {f : KeyD → Option Value} (h1 : ∀ k, idxC items k c = [] → f k = none)
    (h2 : ∀ k, idxC items k c ≠ [] → ∃ v, f k = some v ∧ w.ownsRow B 3 1 v (idxC items k c).length ((idxC items k c).map fun i : Nat => Value.int .i64 i)) (k : KeyD) :
    ∃ v, (f k).getD (.slice none 0 0) = v ∧ w.ownsRow B 3 1 v (idxC items k c).length ((idxC items k c).map fun i : Nat => Value.int .i64 i) := by
  by_cases h : idxC items k c = []
  · refine ⟨_, rfl, ?_⟩
    rw [h1 k h, h]
    simpa using World.ownsRow_nil w B 3 1
  · obtain ⟨v, hv, hr⟩ := h2 k h
    exact ⟨v, by rw [hv]; rfl, hr⟩
theorem updF_twice {κ : Type} [DecidableEq κ] (f : κ → Option Value) (k : κ) (a b : Value) : updF (updF f k a) k b = updF f k b := by
  funext x; simp only [updF]; split <;> rfl
/-- One place more. -/
theorem BehindAt.push {items : List ItemD} {w w' : World} {B r c m : Nat} {f : KeyD → Option Value} {v v1 : Value} (hm : m = items.length - 1 - c)
    (h1 : ∀ k, idxC items k c = [] → f k = none) (h2 : ∀ k, idxC items k c ≠ [] → ∃ v, f k = some v ∧ w.ownsRow B 3 1 v (idxC items k c).length ((idxC items k c).map fun i : Nat => Value.int .i64 i))
    (h3 : ∀ k1 k2 v1 v2, f k1 = some v1 → f k2 = some v2 → k1 ≠ k2 → v1.ownBlock ≠ v2.ownBlock)
    (hv : (f (kAt items m)).getD (.slice none 0 0) = v) (hmap : MapIs encKey w' r (updF f (kAt items m) v1))
    (hrow : w'.ownsRow B 3 1 v1 ((idxC items (kAt items m) c).length + 1) (((idxC items (kAt items m) c).map fun i : Nat => Value.int .i64 i) ++ [.int .i64 m]))
    (hat : v1.ownBlock = v.ownBlock ∨ ∃ b, v1.ownBlock = some b ∧ w.heap.size ≤ b)
    (hkeep : ∀ k v2 n xs, f k = some v2 → k ≠ kAt items m → v2.ownBlock ≠ v.ownBlock → w.ownsRow B 3 1 v2 n xs → w'.ownsRow B 3 1 v2 n xs) : BehindAt items w' B r (c + 1) := by
  have hother : ∀ k v2, f k = some v2 → k ≠ kAt items m → v2.ownBlock ≠ v.ownBlock := by
    intro k v2 hk hne
    cases hf : f (kAt items m) with
    | none =>
      rw [hf] at hv
      simp at hv
      subst hv
      have hne' : idxC items k c ≠ [] := fun e => by rw [h1 k e] at hk; simp at hk
      obtain ⟨v3, hv3, hr3⟩ := h2 k hne'
      rw [hk] at hv3
      injection hv3 with hv3
      subst hv3
      rcases hr3.2 with ⟨_, h0⟩ | ⟨g, cap, cur, rfl, _⟩
      · exact absurd (List.eq_nil_of_length_eq_zero h0) hne'
      · simp [Value.ownBlock]
    | some v0 =>
      rw [hf] at hv
      simp at hv
      subst hv
      exact h3 k _ v2 v0 hk hf hne
  refine ⟨_, hmap, fun k hk => ?_, fun k hk => ?_, fun k1 k2 u1 u2 hu1 hu2 hne => ?_⟩
  · unfold idxC at hk
    split at hk
    · simp at hk
    · rename_i hne
      have hne' : k ≠ kAt items m := fun e => hne (by rw [← hm]; exact e.symm)
      simp only [updF, if_neg hne']
      exact h1 k hk
  · by_cases hkm : k = kAt items m
    · subst hkm
      refine ⟨v1, by simp [updF], ?_⟩
      unfold idxC
      rw [← hm, if_pos rfl, List.length_append, List.map_append]
      exact hrow
    · unfold idxC at hk ⊢
      rw [← hm, if_neg (fun e => hkm e.symm)] at hk ⊢
      obtain ⟨v2, hv2, hr2⟩ := h2 k hk
      exact ⟨v2, by simp only [updF, if_neg hkm]; exact hv2, hkeep k v2 _ _ hv2 hkm (hother k v2 hv2 hkm) hr2⟩
  · have aux : ∀ k u, k ≠ kAt items m → f k = some u → v1.ownBlock ≠ u.ownBlock := by
      intro k u hk hu
      rcases hat with h | ⟨b, h, hb⟩
      · rw [h]; exact fun e => hother k u hu hk e.symm
      · have hne' : idxC items k c ≠ [] := fun e => by rw [h1 k e] at hu; simp at hu
        obtain ⟨v3, hv3, hr3⟩ := h2 k hne'
        rw [hu] at hv3
        injection hv3 with hv3
        subst hv3
        rw [h]
        intro e
        have := (hr3.lt b e.symm).2
        omega
    simp only [updF] at hu1 hu2
    by_cases e1 : k1 = kAt items m
    · rw [if_pos e1] at hu1
      injection hu1 with hu1
      subst hu1
      have e2 : k2 ≠ kAt items m := fun e => hne (e1.trans e.symm)
      rw [if_neg e2] at hu2
      exact aux k2 u2 e2 hu2
    · rw [if_neg e1] at hu1
      by_cases e2 : k2 = kAt items m
      · rw [if_pos e2] at hu2
        injection hu2 with hu2
        subst hu2
        exact fun e => aux k1 u1 e1 hu1 e.symm
      · rw [if_neg e2] at hu2
        exact h3 k1 k2 u1 u2 hu1 hu2 hne

set_option maxRecDepth 100000 in
set_option maxHeartbeats 4000000 in
theorem Encode_any (s0 s1 : Value) (r : Int) (items : List ItemD) (wss : List (List (List Int))) (w : World) (h0 : RItems w (Lt w.heap.size) s0 items)
    (hw : RIntsss w (Lt w.heap.size) s1 wss) (hl : lightW wss) :
    Calls Try.prog 31 #[.agg #[s0, s1, .int .i64 r]] w (EncodePost items wss r w) := by
  have Hw := Lib.hid hw
  obtain ⟨A0, c0, rfl, hm0, hat0⟩ := h0.open_
  obtain ⟨A1, c1, rfl, hm1, hat1⟩ := hw.open_
  clear h0 hw
  have Hat0 := Lib.hid hat0; clear hat0
  have Hat1 := Lib.hid hat1; clear hat1
  have Hl := Lib.hid hl; clear hl
  by_cases hmay : mayN items.length r wss = 0
  case neg =>
    have hmay' := errOf_ne hmay
    have Hr := Lib.hid (show encR items wss r = (0, [], errOf (mayN items.length r wss)) by simp [encR, hmay])
    clear hmay
    go_enter Try.func31, Try.ntmps31
    go_wp2_with (go_at_call 39; refine (May_any _ _ _ _ _ _ _ (RIntsss.stable.up Hw.out ((below_alloc _ _).alloc (by simp) _))).mono ?_; rintro e w1 ⟨rfl, hb⟩; obtain ⟨hx0, hx1⟩ := (show w1.cell? ⟨w.heap.size + 1, 0, none⟩ = some (.int .i64 0) ∧ w1.cell? ⟨w.heap.size + 1, 1, none⟩ = some (.slice none 0 0) from ⟨box_b hb 0, box_b hb 1⟩); have hfz := fun j => (hb.frozen (p := ⟨w.heap.size + 1, j, none⟩) (by simp)); have hfz0 := hfz 0; have hfz1 := hfz 1; clear hfz)
    refine bodyPost_ret (v := .tuple #[.agg #[.int .i64 0, .slice none 0 0], .int .i64 (errOf (mayN items.length r wss))]) (by simp [results, Try.results31, go_sem, hx0, hx1]) rfl ?_
    rw [EncodePost, Hr.out]
    have hbw : Below w.heap.size w w1 := ((below_alloc _ _).alloc (by simp) _).trans (hb.mono (by simp; omega))
    exact ⟨_, rfl, RSl.nil_ _ _ _, (hbw.setCell (p := ⟨w.heap.size + 1, 0, none⟩) (by simp) _).setCell (p := ⟨w.heap.size + 1, 1, none⟩) (by simp) _⟩
  case pos =>
  obtain ⟨hn0, hr, hlen, hbad⟩ := mayN_zero hmay
  obtain ⟨hr0, hr1⟩ := isItemB_iff.1 hr
  have Hmay := Lib.hid hmay
  have Hmay' := Lib.hid (show errOf (mayN items.length r wss) = 0 by rw [hmay]; rfl)
  have Hv := Lib.hid (validW_of hbad)
  clear hmay hbad hr
  have Hlen := Lib.hid hlen; clear hlen
  have hmm := @run_makeMap Try.prog
  go_enter Try.func31, Try.ntmps31
  go_wp2_with (first
    | (go_at_call 39
       refine (May_any _ _ _ _ _ _ _ (RIntsss.stable.up Hw.out ((below_alloc _ _).alloc (by simp) _))).mono ?_
       rintro e w1 ⟨rfl, hb⟩
       rw [Hmay'.out]
       obtain ⟨hx0, hx1, hx2⟩ := (show w1.cell? ⟨w.heap.size, 0, none⟩ = some (.slice A0 items.length c0) ∧ w1.cell? ⟨w.heap.size, 1, none⟩ = some (.slice A1 wss.length c1) ∧ w1.cell? ⟨w.heap.size, 2, none⟩ = some (.int .i64 r) from ⟨box_a hb 0, box_a hb 1, box_a hb 2⟩)
       have hsz : w.heap.size + 1 < w1.heap.size := (by have := hb.size; simp at this; omega)
       have hsz0 : w.heap.size < w1.heap.size := by omega)
    | (go_at_call 40
       refine (clause_any w1.heap.size items.length none [] [r + 1] _ _ ((MakerAt.start).keep (below_alloc _ _)) ?_).mono ?_
       · go_loud (exact lit_ints _ [r + 1] (by simp) rfl (by refine ⟨?_, ?_, ?_⟩ <;> simp) (by simp))
       rintro e w2 ⟨rfl, own, hmk, hown, hag, hbel⟩
       have hbel2 : Below w1.heap.size w1 w2 := ((below_alloc _ _).alloc (by simp) _).trans hbel
       have hy0 := (hbel2.cell (p := ⟨w.heap.size, 0, none⟩) hsz0).trans hx0
       have hy1 := (hbel2.cell (p := ⟨w.heap.size, 1, none⟩) hsz0).trans hx1))
  have Hbw := Lib.hid (show Below w.heap.size w w1 from ((below_alloc _ _).alloc (by simp) _).trans (hb.mono (by simp; omega)))
  have hfz : ∀ j, w1.frozen? ⟨w.heap.size + 1, j, none⟩ = false := fun j => by rw [hb.frozen (p := ⟨w.heap.size + 1, j, none⟩) (by simp)]; simp [go_sem]
  have Hfz := Lib.hid hfz
  have Hrc := Lib.hid (show ∀ j v, #[Value.int .i64 0, .slice none 0 0][j]? = some v → w1.cell? ⟨w.heap.size + 1, j, none⟩ = some v from fun j v hv => (box_b hb j).trans hv)
  have Hbel2 := Lib.hid hbel2
  have Hmk := Lib.hid (show MakerAt w2 w1.heap.size items.length own ([r + 1] :: wcls (wss.take 0) 0) from hmk)
  have HX := Lib.hid (And.intro hx0 (And.intro hx1 hx2))
  clear hb hfz hbel2 hmk hown hag hbel hy0 hy1 hx0 hx1 hx2
  go_loopw [41] (fun sv wr => ∃ i : Nat, i ≤ wss.length ∧ sv = .int .i64 i ∧ Below w1.heap.size w1 wr ∧ ∃ own, Hid (MakerAt wr w1.heap.size items.length own ([r + 1] :: wcls (wss.take i) 0))) (fun sv _ => wss.length - (intOf sv).toNat)
  case atStart => exact ⟨0, Nat.zero_le _, rfl, Hbel2.out, own, Hmk⟩
  case round =>
    obtain ⟨i, hile, rfl, hbeli, owni, hmki⟩ := hrel
    have Hbeli := Lib.hid hbeli; clear hbeli
    by_cases hilt : i < wss.length
    · obtain ⟨wi, rfl⟩ : ∃ w0 : World, w0 = wr := ⟨_, rfl⟩
      obtain ⟨bi, offi, ui, rfl, hbi, hcelli, hui⟩ := Hat1.out.at_ RIntss.stable (ag_of_below (Hbw.out.trans (Hbeli.out.mono (Nat.le_of_lt hsz0)))) hilt
      obtain ⟨A2, c2, rfl, hm2, hat2⟩ := hui.open_
      have Hat2 := Lib.hid hat2; clear hat2
      have Hli := Lib.hid (Hl.out _ (List.getElem_mem hilt))
      have Hvi := Lib.hid (Hv.out i hilt)
      have hin : i < items.length := by have := Hlen.out; omega
      go_wp2
      go_loopw [48] (fun sv wr => ∃ (j : Nat) (own : Option Nat), j ≤ (wss[i]).length ∧ sv = .int .i64 j ∧ Below w1.heap.size wi wr ∧ Hid (MakerAt wr w1.heap.size items.length own (([r + 1] :: wcls (wss.take i) 0) ++ ((wss[i]).take j).map (wantCl i)))) (fun sv _ => (wss[i]).length - (intOf sv).toNat)
      case atStart => exact ⟨0, owni, Nat.zero_le _, rfl, Below.refl _ _, by simpa using hmki⟩
      case round =>
        obtain ⟨j, ownj, hjle, rfl, hbelj, hmkj⟩ := hrel
        have Hbelj := Lib.hid hbelj; clear hbelj
        by_cases hjlt : j < (wss[i]).length
        · obtain ⟨wj, rfl⟩ : ∃ w0 : World, w0 = wr := ⟨_, rfl⟩
          obtain ⟨bj, offj, uj, rfl, hbj, hcellj, huj⟩ := Hat2.out.at_ RInts.stable (ag_of_below (Hbelj.out.mono (Nat.le_of_lt hsz0))) hjlt
          obtain ⟨A3, c3, rfl, hm3, hat3⟩ := huj.open_
          have Hat3 := Lib.hid hat3; clear hat3
          have hq40 := Hli.out.2 _ (List.getElem_mem hjlt)
          have Hvj := Lib.hid (Hvi.out _ (List.getElem_mem hjlt))
          have hwj : w1.heap.size < wj.heap.size := hmkj.out.lt.1
          go_wp2
          go_loopw [58, 10] (fun sv l wr => ∃ q : Nat, q ≤ (wss[i][j]).length ∧ sv = .int .i64 q ∧ Below wj.heap.size wj wr ∧ wr.ownsRow wj.heap.size 3 1 l (q + 1) ((-((i : Int) + 1) :: ((wss[i][j]).take q).map (· + 1)).map (Value.int .i64))) (fun sv _ _ => (wss[i][j]).length - (intOf sv).toNat)
          case atStart => exact ⟨0, Nat.zero_le _, rfl, below_alloc _ _, World.ownsRow_lit (base := wj.heap.size) (size := 1) wj #[.int .i64 (-((i : Int) + 1))] 1 (Nat.le_refl _) (by unfold maxLen; omega) (by simp)⟩
          case round =>
            obtain ⟨q, hqle, rfl, hbelq, hown⟩ := hrel
            obtain ⟨Aq, cq, rfl⟩ := own_shape hown
            have Hbelq := Lib.hid hbelq
            have Hown := Lib.hid hown
            clear hbelq hown
            by_cases hqlt : q < (wss[i][j]).length
            · obtain ⟨bq, offq, uq, rfl, hbq, hcellq, huq⟩ := Hat3.out.at_ RInt.stable (ag_of_below (Hbelq.out.mono (by omega))) hqlt
              obtain rfl := huq
              obtain ⟨hx0, hx1⟩ := Hvj.out _ (List.getElem_mem hqlt)
              go_wp2_with (
                at_builtin
                refine wpList_push rfl _ _ _ rfl eInt (v := .slice Aq (q + 1) cq) rfl (Hown.out.alloc _) wr.heap.size (.int .i64 (wss[i][j][q] + 1)) rfl (by simp [go_sem]) rfl (by omega) (by have := Hbelq.out.size; simp; omega) ?_
                intro v1 w3 hown1 hg1 hat1
                obtain ⟨A1, k1, rfl⟩ := own_shape hown1)
              go_roundw
              case rel =>
                refine ⟨q + 1, by omega, by go_num, ?_, ?_⟩
                · exact (Hbelq.out.alloc Hbelq.out.size _).grown hg1 (by have := Hbelq.out.size; simp; omega) (fun b hb => (Hown.out.lt b hb).1)
                · rw [List.take_succ_eq_append_getElem hqlt, List.map_append, ← List.cons_append, List.map_append]; exact hown1
              case measure => simp [intOf]; omega
            · obtain rfl : q = (wss[i][j]).length := by omega
              have hrd : RInts wr (inS wr w1.heap.size ownj) (.slice Aq ((wss[i][j]).length + 1) cq) (wantCl i wss[i][j]) := by
                have h5 := Hown.out
                rw [List.take_length] at h5
                have h6 : (wantCl i wss[i][j]).length = (wss[i][j]).length + 1 := by simp [wantCl]
                rw [← h6] at h5 ⊢
                refine ints_of_own h5 fun b hb => ?_
                obtain ⟨h7, h8⟩ := h5.lt b hb
                exact ⟨h8, by omega, fun e => by have := hmkj.out.lt.2 b e.symm; omega⟩
              have Hrd := Lib.hid hrd; clear hrd
              go_wp2_with (
                go_at_call 40
                refine (clause_any w1.heap.size items.length ownj _ (wantCl i wss[i][j]) _ _ (hmkj.out.keep Hbelq.out) Hrd.out).mono ?_
                rintro e w3 ⟨rfl, own3, hmk3, hown3, hag3, hbel3⟩)
              go_roundw
              case rel => exact ⟨j + 1, own3, by omega, by go_num, Hbelj.out.trans ((Hbelq.out.mono (Nat.le_of_lt hwj)).trans hbel3), by
                rw [Hid, List.take_succ_eq_append_getElem hjlt, List.map_append, ← List.append_assoc]; exact hmk3⟩
              case measure => simp [intOf]; omega
        · obtain rfl : j = (wss[i]).length := by omega
          go_wp2
          go_roundw
          case rel => exact ⟨i + 1, by omega, by go_num, Hbeli.out.trans Hbelj.out, ownj, by
            have := hmkj.out
            rw [List.take_length] at this
            rw [Hid, wcls_succ hilt]; exact this⟩
          case measure => simp [intOf]; omega
    · obtain rfl : i = wss.length := by omega
      obtain ⟨wm, rfl⟩ : ∃ w0 : World, w0 = wr := ⟨_, rfl⟩
      have Hmkm := Lib.hid (show MakerAt wm w1.heap.size items.length owni (headCls r wss) by have := hmki.out; rw [List.take_length] at this; exact this)
      clear hmki
      have hwm := Hmkm.out.lt.1
      have hwm' : w.heap.size < wm.heap.size := by omega
      have hy0 := (Hbeli.out.cell (p := ⟨w.heap.size, 0, none⟩) hsz0).trans HX.out.1
      go_wp2
      go_loopw [14] (fun sv wr => ∃ x : Int, -1 ≤ x ∧ x < items.length ∧ sv = .int .i64 x ∧ Below wm.heap.size wm wr ∧ wm.heap.size < wr.heap.size ∧ Hid (BehindAt items wr (wm.heap.size + 1) wm.heap.size (items.length - (x + 1).toNat))) (fun sv _ => (intOf sv + 1).toNat)
      case atStart => exact ⟨_, by omega, by omega, rfl, below_alloc _ _, by simp, by
        rw [show items.length - (((items.length : Int) - 1) + 1).toNat = 0 by omega]
        exact ⟨_, MapIs.made _ _, fun _ _ => rfl, fun k h => absurd rfl h, fun k1 k2 v1 v2 h => by simp at h⟩⟩
      case round =>
        obtain ⟨x, hx0, hx1, rfl, hbelx, hszx, hbeh⟩ := hrel
        have Hbelx := Lib.hid hbelx
        have hz0 := (hbelx.cell (p := ⟨w.heap.size, 0, none⟩) hwm').trans hy0
        clear hbelx
        by_cases hxneg : x < 0
        · have hx : x = -1 := by omega
          subst hx
          obtain ⟨wn, rfl⟩ : ∃ w0 : World, w0 = wr := ⟨_, rfl⟩
          have hwn' : w.heap.size < wn.heap.size := by omega
          rw [show items.length - ((-1 : Int) + 1).toNat = items.length by omega] at hbeh
          obtain ⟨f, hf1, hf2, hf3, hf4⟩ := hbeh.out
          have HF := Lib.hid (And.intro hf1 (And.intro hf2 hf3))
          have Hmkn := Lib.hid (Hmkm.out.keep Hbelx.out)
          have hown0 := Hmkm.out.lt.2
          have Hown0 := Lib.hid hown0
          clear hf1 hf2 hf3 hf4 hbeh hown0 hx0 hx1 hxneg
          go_wp2
          go_loopw [99] (fun sv wr => ∃ (i : Nat) (own : Option Nat) (cs : List (List Int)), i ≤ items.length ∧ sv = .int .i64 i ∧ Below w1.heap.size w1 wr ∧ Hid (Ag (fun b => wm.heap.size ≤ b ∧ b < wn.heap.size) wn wr) ∧ wn.heap.size ≤ wr.heap.size ∧ Hid (MakerAt wr w1.heap.size items.length own cs ∧ Upto cs (headCls r wss ++ pairsTo items i) ∧ ∀ b, own = some b → b < wm.heap.size ∨ wn.heap.size ≤ b)) (fun sv _ => items.length - (intOf sv).toNat)
          case atStart => exact ⟨0, owni, headCls r wss, Nat.zero_le _, rfl, Hbeli.out.trans (Hbelx.out.mono (Nat.le_of_lt hwm)), Ag.refl _ _, Nat.le_refl _, Hmkn.out, .inl (by simp [pairsTo]), fun b hb => .inl (Hown0.out b hb).2⟩
          case round =>
            obtain ⟨i, own, cs, hile, rfl, hbel5, hag5, hsz5, hmk5⟩ := hrel
            have Hbel5 := Lib.hid hbel5; clear hbel5
            by_cases hilt : i < items.length
            · obtain ⟨b7, off7, e7, hb7, hi0, hi1, hi2, hi3, hi4⟩ := item_cells (Hat0.out.agree (VCells.stable _) (ag_of_below (Hbw.out.trans (Hbel5.out.mono (Nat.le_of_lt hsz0)))) (fun _ h => h)) hilt
              subst e7
              have hne : idxC items (kAt items i) items.length ≠ [] := fun e => by have := idxC_mem hilt; rw [e] at this; simp at this
              obtain ⟨v, hfv, hrow⟩ := HF.out.2.2 _ hne
              obtain ⟨L, hL⟩ : ∃ L, L = idxC items (kAt items i) items.length := ⟨_, rfl⟩
              have hlpos : 0 < (idxC items (kAt items i) items.length).length := List.length_pos_iff.2 hne
              have hll := idxC_length items (kAt items i) items.length
              rw [← hL] at hrow hlpos hll
              have HL := Lib.hid hL
              clear hL hne
              obtain ⟨Av, cv, rfl⟩ := own_shape hrow
              have hmapr : MapIs encKey wr wm.heap.size f := HF.out.1.agree (hag5.out _ ⟨Nat.le_refl _, hszx⟩)
              have Hmapr := Lib.hid hmapr; have Hfv := Lib.hid hfv; have Hrow := Lib.hid hrow
              have hwmr : wm.heap.size < wr.heap.size := by omega
              have hrd : RInts wn (fun b => wm.heap.size ≤ b ∧ b < wn.heap.size) (.slice Av L.length cv) (L.map fun i : Nat => (i : Int)) := by
                have h5 := hrow
                rw [show (L.map fun i : Nat => Value.int .i64 i) = (L.map fun i : Nat => (i : Int)).map (Value.int .i64) by simp] at h5
                have h6 : (L.map fun i : Nat => (i : Int)).length = L.length := by simp
                rw [← h6] at h5 ⊢
                exact ints_of_own h5 fun b hb => by have := h5.lt b hb; omega
              obtain ⟨AL, cL, eL, hmL, hatL⟩ := hrd.open_
              have HatL := Lib.hid hatL
              simp only [Value.slice.injEq] at eL
              obtain ⟨eL1, eL2, eL3⟩ := eL
              clear eL2
              subst eL1 eL3
              clear hmapr hfv hrow hrd hatL hmL
              go_wp2_with (
                at_lookup
                refine wpList_lookup_is (kt := 33) (vt := 37) rfl _ _ _ rfl keyLaw Try.underlying79 zeroInts rfl (kAt items i) (by rw [keyAt_enc hilt]; rfl) (Hmapr.out.agree ?_) ?_
                · exact Below.heap_alloc _ _ _ hwmr
                rw [Hfv.out]
                simp only [Option.getD_some])
              have Hstart := Lib.hid (show MakerAt (wr.alloc (.cells #[.string items[i].1.1, .string items[i].1.2.1, .string items[i].1.2.2.1, .string items[i].1.2.2.2, .string items[i].2] 35)) w1.heap.size items.length own cs ∧ Upto cs (headCls r wss ++ pairsTo items i ++ behindCls i L 0) ∧ ∀ b, own = some b → b < wm.heap.size ∨ wn.heap.size ≤ b from ⟨hmk5.out.1.keep (below_alloc _ _), by simpa [behindCls] using hmk5.out.2.1, hmk5.out.2.2⟩)
              have hag6 : Hid (Ag (fun b => wm.heap.size ≤ b ∧ b < wn.heap.size) wn (wr.alloc (.cells #[.string items[i].1.1, .string items[i].1.2.1, .string items[i].1.2.2.1, .string items[i].1.2.2.2, .string items[i].2] 35))) := hag5.out.trans ((ag_alloc wr _).sub fun b hb => (by omega : b < wr.heap.size))
              go_loopw [19] (fun sv wr => ∃ (x : Int) (own : Option Nat) (cs : List (List Int)), -1 ≤ x ∧ x < L.length ∧ sv = .int .i64 x ∧ Below w1.heap.size w1 wr ∧ Hid (Ag (fun b => wm.heap.size ≤ b ∧ b < wn.heap.size) wn wr) ∧ wn.heap.size ≤ wr.heap.size ∧ Hid (MakerAt wr w1.heap.size items.length own cs ∧ Upto cs (headCls r wss ++ pairsTo items i ++ behindCls i L (L.length - (x + 1).toNat)) ∧ ∀ b, own = some b → b < wm.heap.size ∨ wn.heap.size ≤ b)) (fun sv _ => (intOf sv + 1).toNat)
              case atStart => exact ⟨_, own, cs, by omega, by omega, rfl, Hbel5.out.trans ((below_alloc _ _).mono (by have := Hbel5.out.size; omega)), hag6, by simp; omega, by rw [Hid, show L.length - (((L.length : Int) - 1) + 1).toNat = 0 by omega]; exact Hstart.out⟩
              case round =>
                obtain ⟨x, own6, cs6, hx0, hx1, rfl, hbel6, hag7, hsz6, hmk6⟩ := hrel
                have Hbel6 := Lib.hid hbel6
                obtain ⟨vm, hc0, hc1, hc2, hrdm⟩ := hmk6.out.1.cells_
                clear hbel6 hrdm hc0 hc1
                by_cases hxneg : x < 0
                · have hx : x = -1 := by omega
                  subst hx
                  go_wp2
                  go_roundw
                  case rel => exact ⟨i + 1, own6, cs6, by omega, by go_num, Hbel6.out, hag7, hsz6, hmk6.out.1, by
                    have h5 := hmk6.out.2.1
                    rw [show L.length - ((-1 : Int) + 1).toNat = L.length by omega, HL.out, behindCls_all, List.append_assoc, ← pairsTo_succ] at h5
                    exact h5, hmk6.out.2.2⟩
                  case measure => simp [intOf] <;> omega
                by_cases hbig : 16384 < cs6.length
                · rw [decide_eq_true hbig] at hc2
                  have Hbig := Lib.hid hbig; clear hbig
                  go_wp2
                  go_roundw
                  case rel => exact ⟨i + 1, own6, cs6, by omega, by go_num, Hbel6.out, hag7, hsz6, hmk6.out.1, by
                    have h5 := hmk6.out.2.1.pre (List.prefix_append_right_inj _ |>.2 (behindCls_pre i L _)) Hbig.out
                    rw [HL.out, behindCls_all, List.append_assoc, ← pairsTo_succ] at h5
                    exact h5, hmk6.out.2.2⟩
                  case measure => simp [intOf] <;> omega
                rw [decide_eq_false hbig] at hc2
                have Hbig := Lib.hid hbig; clear hbig
                obtain ⟨q, rfl⟩ := Int.eq_ofNat_of_zero_le (by omega : 0 ≤ x)
                have hqlt : q < (L.map fun i : Nat => (i : Int)).length := by simp; omega
                obtain ⟨bq, offq, uq, eq1, hbq, hcellq, huq⟩ := HatL.out.at_ RInt.stable hag7.out hqlt
                have hqL : q < L.length := by omega
                have huq' : uq = .int .i64 (L[q] : Nat) := by simpa [RInt] using huq
                subst huq' eq1
                have Hup := Lib.hid (show Upto cs6 (headCls r wss ++ pairsTo items i ++ behindCls i L (L.length - 1 - q)) by
                  have h5 := hmk6.out.2.1
                  rwa [show L.length - ((q : Int) + 1).toNat = L.length - 1 - q by omega] at h5)
                have Hsucc := Lib.hid (show behindCls i L (L.length - q) = behindCls i L (L.length - 1 - q) ++ (if i < L[q] then [pairCl i L[q]] else []) by
                  have h5 := behindCls_succ (i := i) (l := L) (q := L.length - 1 - q) (by omega)
                  simp only [show L.length - 1 - (L.length - 1 - q) = q by omega, show L.length - 1 - q + 1 = L.length - q by omega] at h5
                  exact h5)
                have hki : L[q] < items.length := by
                  have h5 : L[q] ∈ idxC items (kAt items i) items.length := by rw [← HL.out]; exact List.getElem_mem hqL
                  rw [← List.mem_reverse, idxC_reverse _ _ _ (Nat.le_refl _)] at h5
                  simp at h5; omega
                clear huq
                by_cases hgt : i < L[q]
                · have Hs2 := Lib.hid (show behindCls i L (L.length - q) = behindCls i L (L.length - 1 - q) ++ [pairCl i L[q]] by rw [Hsucc.out, if_pos hgt])
                  have hw1r := hmk6.out.1.lt
                  go_wp2_with (
                    go_at_call 40
                    refine (clause_any w1.heap.size items.length own6 cs6 (pairCl i L[q]) _ _ (hmk6.out.1.keep (below_alloc _ _)) ?_).mono ?_
                    · exact lit_ints _ (pairCl i L[q]) rfl rfl ⟨by simp, by omega, fun e => by have := hw1r.2 _ e.symm; omega⟩ (by simp)
                    rintro e w3 ⟨rfl, own3, hmk3, hown3, hag3, hbel3⟩)
                  have Hfin := Lib.hid (show Below w1.heap.size w1 w3 ∧ Ag (fun b => wm.heap.size ≤ b ∧ b < wn.heap.size) wn w3 ∧ wn.heap.size ≤ w3.heap.size ∧ MakerAt w3 w1.heap.size items.length own3 (cs6 ++ [pairCl i L[q]]) ∧ Upto (cs6 ++ [pairCl i L[q]]) (headCls r wss ++ pairsTo items i ++ behindCls i L (L.length - q)) ∧ ∀ b, own3 = some b → b < wm.heap.size ∨ wn.heap.size ≤ b from by
                    have hba := below_alloc wr (.cells #[.int .i64 (-((i : Int) + 1)), .int .i64 (-((L[q] : Int) + 1))] 3)
                    refine ⟨Hbel6.out.trans ((hba.mono (by omega)).trans hbel3), hag7.out.trans (((ag_of_below hba).sub fun b hb => (by omega : b < wr.heap.size)).trans (hag3.sub fun b hb => ⟨by simp; omega, by omega, fun e => ?_⟩)), ?_, hmk3, ?_, fun b hb => ?_⟩
                    · have := hmk6.out.2.2 b e.symm; omega
                    · have := hbel3.size; simp at this; omega
                    · rw [Hs2.out, ← List.append_assoc]; exact Hup.out.push Hbig.out
                    · rcases hown3 with h | ⟨b', h, hb'⟩
                      · exact hmk6.out.2.2 b (by rw [← h]; exact hb)
                      · rw [h] at hb; simp at hb hb'; omega)
                  clear hmk3 hown3 hag3 hbel3
                  go_roundw
                  case rel => exact ⟨(q : Int) - 1, own3, cs6 ++ [pairCl i L[q]], by omega, by omega, rfl, Hfin.out.1, Hfin.out.2.1, Hfin.out.2.2.1, Hfin.out.2.2.2.1, by rw [show L.length - ((q : Int) - 1 + 1).toNat = L.length - q by omega]; exact Hfin.out.2.2.2.2.1, Hfin.out.2.2.2.2.2⟩
                  case measure => simp [intOf] <;> omega
                · have Hs2 := Lib.hid (show behindCls i L (L.length - q) = behindCls i L (L.length - 1 - q) by rw [Hsucc.out, if_neg hgt]; simp)
                  go_wp2
                  go_roundw
                  case rel => exact ⟨(q : Int) - 1, own6, cs6, by omega, by omega, rfl, Hbel6.out, hag7, hsz6, hmk6.out.1, by rw [show L.length - ((q : Int) - 1 + 1).toNat = L.length - q by omega, Hs2.out]; exact Hup.out, hmk6.out.2.2⟩
                  case measure => simp [intOf] <;> omega
            · obtain rfl : i = items.length := by omega
              obtain ⟨vm, hc0, hc1, hc2, hrdm⟩ := hmk5.out.1.cells_
              have hwr : w1.heap.size < wr.heap.size := hmk5.out.1.lt.1
              have hr0c := (Hbel5.out.cell (p := ⟨w.heap.size + 1, 0, none⟩) hsz).trans (Hrc.out 0 _ rfl)
              have hr1c := (Hbel5.out.cell (p := ⟨w.heap.size + 1, 1, none⟩) hsz).trans (Hrc.out 1 _ rfl)
              have hrf0 := (Hbel5.out.frozen (p := ⟨w.heap.size + 1, 0, none⟩) hsz).trans (Hfz.out 0)
              have hrf1 := (Hbel5.out.frozen (p := ⟨w.heap.size + 1, 1, none⟩) hsz).trans (Hfz.out 1)
              have Hup := Lib.hid hmk5.out.2.1
              have Hfinb := Lib.hid (Hbw.out.trans (Hbel5.out.mono (Nat.le_of_lt hsz0)))
              by_cases hbig : 16384 < cs.length
              · rw [decide_eq_true hbig] at hc2
                have Hr := Lib.hid (show encR items wss r = (0, [], 2) by
                  have h5 : 16384 < (allCls items wss r).length := by
                    rcases Hup.out with h | ⟨_, h⟩
                    · rw [h] at hbig; exact hbig
                    · exact Nat.lt_of_lt_of_le hbig h.length_le
                  simp [encR, Hmay.out, h5])
                clear hbig hrdm hc0 hc1
                go_wp2
                refine bodyPost_ret (v := .tuple #[.agg #[.int .i64 0, .slice none 0 0], .int .i64 2]) (by simp [results, Try.results31, go_sem, hr0c, hr1c]) rfl ?_
                rw [EncodePost, Hr.out]
                exact ⟨_, rfl, RSl.nil_ _ _ _, (Hfinb.out.setCell (p := ⟨w.heap.size + 1, 0, none⟩) (by simp) _).setCell (p := ⟨w.heap.size + 1, 1, none⟩) (by simp) _⟩
              · rw [decide_eq_false hbig] at hc2
                have hcs : cs = allCls items wss r := by
                  rcases Hup.out with h | ⟨h, _⟩
                  · exact h
                  · exact absurd h hbig
                subst hcs
                have hrd := hrdm (by omega)
                have Hrd := Lib.hid hrd
                have Hs0 := Lib.hid (satMay_all Hmay.out Hl.out (by omega))
                have Hr := Lib.hid (show encR items wss r = ((items.length : Int), allCls items wss r, 0) by simp [encR, Hmay.out, hbig])
                obtain ⟨Am, cm, rfl, hmm9, _⟩ := hrd.open_
                clear hbig hrdm
                go_wp2_with (
                  go_at_call 41
                  refine (satMay_any (items.length : Int) _ _ _ (RIntss.stable.sub Hrd.out fun b hb => hb.2)).mono ?_
                  rintro e w9 ⟨rfl, hb9⟩
                  rw [Hs0.out]
                  have hd0 := (hb9.cell (p := ⟨w1.heap.size, 0, none⟩) hwr).trans hc0
                  have hd1 := (hb9.cell (p := ⟨w1.heap.size, 1, none⟩) hwr).trans hc1
                  have hq : w.heap.size + 1 < wr.heap.size := by omega
                  have hs0 := (hb9.cell (p := ⟨w.heap.size + 1, 0, none⟩) hq).trans hr0c
                  have hs1 := (hb9.cell (p := ⟨w.heap.size + 1, 1, none⟩) hq).trans hr1c
                  have ht0 := (hb9.frozen (p := ⟨w.heap.size + 1, 0, none⟩) hq).trans hrf0
                  have ht1 := (hb9.frozen (p := ⟨w.heap.size + 1, 1, none⟩) hq).trans hrf1)
                refine bodyPost_ret (v := .tuple #[.agg #[.int .i64 (items.length : Int), .slice Am (allCls items wss r).length cm], .int .i64 0]) (by simp [results, Try.results31, go_sem, hs0, hs1]) rfl ?_
                rw [EncodePost, Hr.out]
                refine ⟨_, rfl, RIntss.stable _ _ _ _ _ _ Hrd.out (fun b hb => ?_) (fun b hb => ?_), ((Hfinb.out.trans (hb9.mono (by omega))).setCell (p := ⟨w.heap.size + 1, 0, none⟩) (by simp) _).setCell (p := ⟨w.heap.size + 1, 1, none⟩) (by simp) _⟩
                · exact (Below.heap_setCell _ _ _ _ (by simp; omega)).trans ((Below.heap_setCell _ _ _ _ (by simp; omega)).trans (hb9.block b hb.2))
                · have := hb9.size
                  show b < _
                  simp; omega
        · obtain ⟨m, rfl⟩ := Int.eq_ofNat_of_zero_le (by omega : 0 ≤ x)
          have hmlt : m < items.length := by omega
          have hmm1 : items.length - (((m : Int) + 1).toNat) = items.length - 1 - m := by omega
          rw [hmm1] at hbeh
          have hmc : m = items.length - 1 - (items.length - 1 - m) := by omega
          have Hmc := Lib.hid hmc
          clear hmm1 hmc
          obtain ⟨f, hf1, hf2, hf3, hf4⟩ := hbeh.out
          obtain ⟨v, hv, hrow⟩ := BehindAt.row hf2 hf3 (kAt items m)
          obtain ⟨Av, cv, rfl⟩ := own_shape hrow
          have hlen9 := idxC_length items (kAt items m) (items.length - 1 - m)
          obtain ⟨b7, off7, e7, hb7, hi0, hi1, hi2, hi3, hi4⟩ := item_cells (Hat0.out.agree (VCells.stable _) (ag_of_below (Hbw.out.trans ((Hbeli.out.mono (Nat.le_of_lt hsz0)).trans (Hbelx.out.mono (Nat.le_of_lt hwm'))))) (fun _ h => h)) hmlt
          have HF := Lib.hid (And.intro hf1 (And.intro hf2 (And.intro hf3 hf4)))
          have Hv := Lib.hid hv
          have Hrow := Lib.hid hrow
          subst e7
          clear hf1 hf2 hf3 hf4 hv hrow hbeh hi4
          go_wp2_with (first
            | (refine wpList_mapEntry_is (kt := 33) (vt := 37) rfl _ _ rfl keyLaw Try.underlying79 zeroInts rfl (kAt items m) (by rw [keyAt_enc hmlt]; rfl) (HF.out.1.agree ?_) ?_
               · exact (Below.heap_alloc _ _ _ (by simp; omega)).trans (Below.heap_alloc _ _ _ hszx)
               rw [Hv.out]
               intro w3 s hst hg3 hs3
               have hcn : w3.cell? ⟨wr.heap.size + 1, 0, none⟩ = some (.int .i64 m) := (World.cell?_of_block (hg3.block (wr.heap.size + 1) (by simp) (by simp; omega))).trans (by simp [go_sem])
               have hrow3 := ((Hrow.out.alloc (.cells #[.string items[m].1.1, .string items[m].1.2.1, .string items[m].1.2.2.1, .string items[m].1.2.2.2] 33)).alloc (.cells #[.int .i64 m] 3)).kept hg3 (.inr (by intro e; have := Hrow.out.lt _ e; omega)))
            | (at_builtin
               refine wpList_push rfl _ _ _ rfl eInt (v := .slice Av (idxC items (kAt items m) (items.length - 1 - m)).length cv) rfl hrow3 (wr.heap.size + 1) (.int .i64 m) rfl hcn rfl (by omega) (by rw [hs3]; simp; omega) ?_
               intro v1 w4 hown4 hg4 hat4)
            | (refine wpList_entryStore_is rfl _ _ _ rfl rfl rfl v1 rfl (hst.agree (hg4.block _ (by rw [hs3]; simp; omega) (fun e => by have := Hrow.out.lt _ e.symm; omega))) ?_
               intro w5 hmap5 hg5 hs5))
          have hsz5 : w5.heap.size = w4.heap.size := hs5
          have hsz4 : wr.heap.size + 2 ≤ w4.heap.size := by have := hg4.size; rw [hs3] at this; simpa using this
          have hnb : ∀ (W : World) (u : Value) (n : Nat) (xs : List Value), W.ownsRow (wm.heap.size + 1) 3 1 u n xs → u.ownBlock ≠ some wm.heap.size := fun W u n xs h e => by have := h.lt _ e; omega
          have hfin : Below wm.heap.size wm w5 ∧ wm.heap.size < w5.heap.size ∧ BehindAt items w5 (wm.heap.size + 1) wm.heap.size (items.length - 1 - m + 1) := by
            refine ⟨?_, by omega, BehindAt.push (w := wr) Hmc.out HF.out.2.1 HF.out.2.2.1 HF.out.2.2.2 Hv.out (by rw [updF_twice] at hmap5; exact hmap5) (hown4.kept hg5 (.inr (hnb _ _ _ _ hown4))) ?_ (fun k v2 n xs hk hne hvne hr => ?_)⟩
            · exact ((((Hbelx.out.alloc (Nat.le_of_lt hszx) _).alloc (by simp; omega) _).grown hg3 (by simp; omega) (fun b hb => by simp at hb; omega)).grown hg4 (by rw [hs3]; simp; omega) (fun b hb => by have := Hrow.out.lt b hb; omega)).grown hg5 (by omega) (fun b hb => by simp at hb; omega)
            · rcases hat4 with h | h
              · exact .inl h
              · exact .inr ⟨_, h, by rw [hs3]; simp; omega⟩
            · exact ((((hr.alloc _).alloc _).kept hg3 (.inr (hnb _ _ _ _ hr))).kept hg4 (.inr hvne)).kept hg5 (.inr (hnb _ _ _ _ hr))
          have Hfin := Lib.hid hfin
          clear hfin
          go_roundw
          case rel => exact ⟨(m : Int) - 1, by omega, by omega, rfl, Hfin.out.1, Hfin.out.2.1, by rw [Hid, show items.length - (((m : Int) - 1) + 1).toNat = items.length - 1 - m + 1 by omega]; exact Hfin.out.2.2⟩
          case measure => simp [intOf] <;> omega
end Go.Proofs.Ytcebafeaikipmaa
