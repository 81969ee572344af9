/- Graphs: the walk that finds groups, its steps as the program takes them, and how long it goes on. Plain. -/
import Derived.Test.YtjmenkjmghmkpaaGrS2
namespace Go.Proofs.Ytjmenkjmghmkpaa
namespace G22

/-- What leave does first: n is off the way, and the one ahead of it has heard how far back n leads. -/
def lowUp (s : St) (w : List Nat) (n : Nat) : St := match w.getLast? with | some u => { s with way := w, low := s.low.set u (min (s.L u) (s.L n)) } | none => { s with way := w }
def LeaveTo (s : St) (w : List Nat) (n : Nat) (s' : St) : Prop :=
  ((lowUp s w n).L n ≠ s.M n ∧ s' = lowUp s w n) ∨ ((lowUp s w n).L n = s.M n ∧ ∃ O P, s.opn = O ++ n :: P ∧ s' = popS (lowUp s w n) O (n :: P))
section
variable {G : Gr} {s : St}
theorem lowUp_snoc (s : St) (p : List Nat) (u n : Nat) : lowUp s (p ++ [u]) n = wayS (lowS s u (s.L n)) (p ++ [u]) := by
  unfold lowUp; rw [List.getLast?_concat]; rfl
theorem lowUp_nil (s : St) (n : Nat) : lowUp s [] n = wayS s [] := rfl
theorem Tj.leave (h : Tj G s) {w : List Nat} {n : Nat} (hw : s.way = w ++ [n]) (hX : s.X n = (row G n).length) {s' : St} (hl : LeaveTo s w n s') : Tj G s' := by
  obtain ⟨hn, hwn⟩ := h.wlast hw
  obtain ⟨hle, y, hy, hyl, hr⟩ := h.low n (h.wlt hn)
  rcases List.eq_nil_or_concat w with rfl | ⟨p, u, rfl⟩
  · rw [show ([] : List Nat) ++ [n] = [n] from rfl] at hw
    rcases hl with ⟨h1, rfl⟩ | ⟨h1, O, P, h2, rfl⟩
    · have h1' : s.L n ≠ s.M n := h1
      exact h.leaveA (w := []) hw hX (by omega) (fun p u e => by simp at e)
    · exact h.leaveB (w := []) hw hX h1 h2
  · rw [List.concat_eq_append] at *
    have hu : u ∈ s.way := by rw [hw]; simp
    have hun : Reach G u n := h.chain p u n [] (by rw [hw]; simp)
    have ht := h.low_ hu hy (hun.trans hr)
    rw [hyl] at ht
    have hne : n ≠ u := fun e => by have := hwn u (by simp); rw [e] at this; omega
    have hL : ∀ b, (lowS s u (s.L n)).L b = if b = u then min (s.L u) (s.L n) else s.L b := fun b => getD_set (by rw [h.llow]; exact h.olt u (h.wlt hu))
    have hLn : (lowS s u (s.L n)).L n = s.L n := by rw [hL, if_neg hne]
    have hLn2 : (lowUp s (p ++ [u]) n).L n = s.L n := by rw [lowUp_snoc]; exact hLn
    rcases hl with ⟨h1, rfl⟩ | ⟨h1, O, P, h2, rfl⟩
    · rw [hLn2] at h1
      rw [lowUp_snoc]
      refine ht.leaveA hw hX (by rw [hLn]; show s.L n < s.M n; omega) (fun p' u' e => ?_)
      have e2 : u' = u := by
        have := List.append_inj' e rfl
        simpa using this.2.symm
      rw [e2, hLn, hL, if_pos rfl]
      exact Nat.min_le_right _ _
    · rw [hLn2] at h1
      rw [lowUp_snoc]
      exact ht.leaveB hw hX (by rw [hLn]; exact h1) h2
theorem lowUp_met (s : St) (w : List Nat) (n : Nat) : (lowUp s w n).met = s.met ∧ (lowUp s w n).nxt = s.nxt ∧ (lowUp s w n).count = s.count ∧ (lowUp s w n).way = w ∧ (lowUp s w n).opn = s.opn ∧ (lowUp s w n).inn = s.inn ∧ (lowUp s w n).group = s.group ∧ (lowUp s w n).last = s.last ∧ (lowUp s w n).low.length = s.low.length := by
  unfold lowUp
  split <;> simp
theorem LeaveTo.same {w : List Nat} {n : Nat} {s' : St} (h : LeaveTo s w n s') : s'.met = s.met ∧ s'.nxt = s.nxt ∧ s'.count = s.count ∧ s'.way = w := by
  obtain ⟨h1, h2, h3, h4, _⟩ := lowUp_met s w n
  rcases h with ⟨_, rfl⟩ | ⟨_, O, P, _, rfl⟩
  · exact ⟨h1, h2, h3, h4⟩
  · exact ⟨h1, h2, h3, h4⟩
/-- how many nodes weren't met -/
def unmet (s : St) (n : Nat) : Nat := ((List.range n).filter fun x => s.M x == 0).length
theorem filter_length_lt {p q : Nat → Bool} {n k : Nat} (h : ∀ x, q x = true → p x = true) (hk : k < n) (h1 : p k = true) (h2 : q k = false) : ((List.range n).filter q).length < ((List.range n).filter p).length := by
  have hle : ∀ m, ((List.range m).filter q).length ≤ ((List.range m).filter p).length := by
    intro m
    induction m with
    | zero => exact Nat.le_refl _
    | succ m ih =>
      rw [List.range_succ, List.filter_append, List.filter_append, List.length_append, List.length_append]
      cases h3 : q m with
      | true => simp [h3, h m h3]; exact ih
      | false => cases h4 : p m <;> simp [h3, h4] <;> omega
  induction n with
  | zero => omega
  | succ n ih =>
    rw [List.range_succ, List.filter_append, List.filter_append, List.length_append, List.length_append]
    rcases Nat.lt_or_ge k n with h3 | h3
    · have := ih h3
      cases h4 : q n with
      | true => simp [h4, h n h4]; exact this
      | false => cases h5 : p n <;> simp [h4, h5] <;> omega
    · obtain rfl : k = n := by omega
      have := hle k
      simp [h1, h2]; omega
theorem unmet_enter (h : Tj G s) {n : Nat} (hn : n < G.length) (hm : s.M n = 0) : unmet (enterS s n) G.length < unmet s G.length := by
  have hM : ∀ b, (enterS s n).M b = if b = n then s.count + 1 else s.M b := fun b => getD_set (by rw [h.lmet]; exact hn)
  refine filter_length_lt (k := n) (fun x hx => ?_) hn (by simp [hm]) (by rw [hM, if_pos rfl]; simp)
  rw [hM] at hx
  split at hx
  · simp at hx
  · exact hx
theorem unmet_zero {n : Nat} (h : unmet s n = 0) : ∀ x, x < n → s.M x ≠ 0 := by
  intro x hx hm
  have := List.eq_nil_of_length_eq_zero h
  have hmem : x ∈ (List.range n).filter (fun x => s.M x == 0) := by simp [hx, hm]
  rw [this] at hmem
  cases hmem
/-- how many steps weren't looked at -/
def remS (G : Gr) (s : St) : Nat := sumN (List.range G.length) fun x => (row G x).length - s.X x
theorem sumN_lt {l : List Nat} {f g : Nat → Nat} {k : Nat} (hd : l.Nodup) (hk : k ∈ l) (h : ∀ x, x ∈ l → x ≠ k → f x = g x) (h1 : f k < g k) : sumN l f < sumN l g := by
  have heq : ∀ m : List Nat, (∀ x ∈ m, f x = g x) → sumN m f = sumN m g := fun m hm => by
    unfold sumN; rw [List.map_congr_left hm]
  induction l with
  | nil => cases hk
  | cons a l ih =>
    obtain ⟨ha, hd'⟩ := List.nodup_cons.1 hd
    have e : ∀ f : Nat → Nat, sumN (a :: l) f = f a + sumN l f := fun f => by simp [sumN]
    rw [e, e]
    rcases List.mem_cons.1 hk with rfl | hk'
    · rw [heq l fun x hx => h x (by simp [hx]) (fun e => ha (e ▸ hx))]
      omega
    · have hak : a ≠ k := fun e => ha (e ▸ hk')
      rw [h a (by simp) hak]
      have := ih hd' hk' fun x hx hne => h x (by simp [hx]) hne
      omega
theorem rem_edge (h : Tj G s) {t : Nat} (ht : t < G.length) (hx : s.X t < (row G t).length) : remS G (edgeS s t) < remS G s := by
  have hX : ∀ b, (edgeS s t).X b = if b = t then s.X t + 1 else s.X b := fun b => getD_set (by rw [h.lnxt]; exact ht)
  refine sumN_lt List.nodup_range (k := t) (by simpa using ht) (fun x _ hne => by rw [hX, if_neg hne]) ?_
  rw [hX, if_pos rfl]
  omega
theorem Tj.open_le (h : Tj G s) : s.opn.length ≤ G.length := by
  refine nodup_le ?_ h.olt
  exact h.osort.imp fun hxy e => by rw [e] at hxy; omega
theorem Tj.way_le (h : Tj G s) : s.way.length ≤ G.length := Nat.le_trans h.wsub.length_le h.open_le
/-- While n isn't found on the open row, its end is taken off. -/
def popTo (s : St) (O P : List Nat) : St := { s with opn := O, inn := setAll s.inn P false, group := setAll s.group P s.last }
theorem popTo_cons (s : St) (O P : List Nat) (k : Nat) : popTo s O (k :: P) = { popTo s (O ++ [k]) P with opn := O, inn := (popTo s (O ++ [k]) P).inn.set k false, group := (popTo s (O ++ [k]) P).group.set k s.last } := rfl
end
end G22
end Go.Proofs.Ytjmenkjmghmkpaa
