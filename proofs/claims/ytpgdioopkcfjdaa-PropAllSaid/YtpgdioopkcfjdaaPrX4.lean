/- work.value: by induction on how many more may be open. -/
import Derived.Test.YtpgdioopkcfjdaaPrX3
import Derived.Laws.LoneSync
namespace Go.Proofs.Ytpgdioopkcfjdaa
open Go.RowKit

def hasT (l : List Bs) (n : Bs) : Bool := decide (n ∈ l)
def idxT (l : List Bs) (n : Bs) : Int := match l.findIdx? (fun x => n == x) with | some i => i | none => -1
theorem idxT_has (l : List Bs) (n : Bs) : decide (0 ≤ idxT l n) = hasT l n := by
  unfold idxT hasT
  cases h : l.findIdx? (fun x => n == x) with
  | none =>
    have h2 := List.findIdx?_eq_none_iff.1 h
    have : ¬ n ∈ l := fun hm => by have := h2 n hm; simp at this
    simp [this]
  | some i =>
    obtain ⟨hi, hp, _⟩ := List.findIdx?_eq_some_iff_getElem.1 h
    have : n ∈ l := by rw [show n = l[i] by simpa using hp]; exact List.getElem_mem hi
    simp [this]
theorem IndexT_any (s : Value) (n : Bs) (l : List Bs) (w : World) {S : Nat → Prop} (hs : RTxs w S s l) :
    Calls Try.prog 57 #[s, sv n] w fun e w' => e = .returned (.int .i64 (idxT l n)) ∧ w = w' := by
  obtain ⟨A, c, rfl, hm, hat⟩ := hs.open_
  have Hat := Lib.hid hat; clear hat
  go_enter Try.func57, Try.ntmps57
  go_wp2
  go_loop [8] (fun kv => ∃ k : Nat, k ≤ l.length ∧ kv = .int .i64 k ∧ Hid ((l.take k).any (fun x => n == x) = false)) (fun kv => l.length - (intOf kv).toNat)
  case atStart => exact ⟨0, Nat.zero_le _, rfl, Lib.hid rfl⟩
  case round =>
    obtain ⟨k, hkle, rfl, Hn⟩ := hrel
    rcases Nat.lt_or_ge k l.length with hk | hk
    · obtain ⟨b, off, rfl, hb, hc⟩ := Hat.out (by omega)
      obtain ⟨u, c0, hu⟩ := hc k hk
      obtain rfl := hu
      clear hc
      cases hq : (n == l[k]) with
      | true =>
        have he : ((bz n).toList == (bz l[k]).toList) = true := by rw [bz_beq]; exact hq
        have Hi := Lib.hid (show idxT l n = k by unfold idxT; rw [findIdx_hit hk Hn.out hq])
        clear hq
        go_wp2
        go_ret
        exact ⟨ret_int Hi.out.symm, rfl⟩
      | false =>
        have he : ((bz n).toList == (bz l[k]).toList) = false := by rw [bz_beq]; exact hq
        have Hn2 := Lib.hid (show (l.take (k + 1)).any (fun x => n == x) = false by rw [any_take_succ' _ _ _ hk, Hn.out]; simpa using hq)
        clear hq
        go_wp2
        go_round
        case rel => exact ⟨k + 1, by omega, by go_num, Hn2⟩
        case measure => simp [intOf]; omega
    · obtain rfl : k = l.length := by omega
      have Hi := Lib.hid (show idxT l n = -1 by unfold idxT; rw [findIdx_miss Hn.out])
      go_wp2
      go_ret
      exact ⟨ret_int Hi.out.symm, rfl⟩
theorem ContainsT_any (s : Value) (n : Bs) (l : List Bs) (w : World) {S : Nat → Prop} (hs : RTxs w S s l) :
    Calls Try.prog 50 #[s, sv n] w fun e w' => e = .returned (.bool (hasT l n)) ∧ w = w' := by
  have Hn := Lib.hid (idxT_has l n)
  have Hs := Lib.hid hs
  clear hs
  go_enter Try.func50, Try.ntmps50
  go_wp2_with (go_at_call 57; refine (IndexT_any _ n l _ Hs.out).mono ?_; rintro e w1 ⟨rfl, rfl⟩)
  go_ret
  exact ⟨ret_bool Hn.out, rfl⟩
/-- sync/atomic -/
theorem Add_any (T : Nat) (k : Int) (w : World) (hc : w.cell? ⟨T, 3, none⟩ = some (.int .i64 k)) (hz : w.frozen? ⟨T, 3, none⟩ = false) :
    Calls Try.prog 51 #[.pointer (some ⟨T, 3, none⟩), .int .i64 1] w fun e w' => e = .returned (.int .i64 (wrap64 (k + 1))) ∧ w' = w.setCell ⟨T, 3, none⟩ (.int .i64 (wrap64 (k + 1))) := by
  have hadd := run_call_add (P := Try.prog) Try.func58 (by kernel_rfl) (by kernel_rfl) (by kernel_rfl) .i64 (by kernel_rfl) (y := 1) (s := wrap64 (k + 1)) hc hz (by simp [go_sem, wrap64, IntKind.wrap_i64])
  go_enter Try.func51, Try.ntmps51
  go_wp2
  go_ret
  exact ⟨rfl, rfl⟩
theorem Load_any (T : Nat) (k : Int) (w : World) (hc : w.cell? ⟨T, 3, none⟩ = some (.int .i64 k)) :
    Calls Try.prog 33 #[.pointer (some ⟨T, 3, none⟩)] w fun e w' => e = .returned (.int .i64 k) ∧ w' = w := by
  have hl := run_call_load (P := Try.prog) Try.func47 (by kernel_rfl) (by kernel_rfl) (by kernel_rfl) .i64 (by kernel_rfl) hc
  go_enter Try.func33, Try.ntmps33
  go_wp2
  go_ret
  exact ⟨rfl, rfl⟩
theorem kp_trans {a b c : World} {k : Nat} (h : Kp a b k) (h2 : Kp b c k) : Kp a c k := fun o ho => h2 o (h o ho)
section
variable {w w' : World} {B T R Dn Wk : Nat} {lv wv : Value} {L U done : PL} {way : List Bs} {n v : Bs}
theorem TabAt.kpv (h : TabAt w B T R Dn lv L U done) (hw : WkAt w B Wk T wv way) {D : Nat → Prop} (hc : Ch D w w') (hD : ∀ k, D k → k = Wk ∨ some k = wv.ownBlock) : TabAt w' B T R Dn lv L U done := by
  have key : ∀ {k : Nat} {o : Obj}, w.heap[k]? = some o → (∀ c, o ≠ .cells c 71 (0, 0)) → (∀ c, o ≠ .cells c 9 (0, 0)) → Kp w w' k := by
    intro k o hk h1 h2
    refine hc.kp fun hd => ?_
    rcases hD k hd with e | e
    · subst e; have := hw.hW; rw [hk] at this; cases this; exact h1 _ rfl
    · obtain ⟨c, h3⟩ := own_obj hw.own e.symm; rw [hk] at h3; cases h3; exact h2 _ rfl
  obtain ⟨es, c, hR⟩ := h.raw.obj
  obtain ⟨es', c', hDn⟩ := h.dn.obj
  refine h.kp (key h.hT (by simp) (by simp)) (key hR (by simp) (by simp)) (key hDn (by simp) (by simp)) fun g hg => ?_
  obtain ⟨c, h3⟩ := own_obj h.own hg
  exact key h3 (by simp) (by simp)
theorem wk_ne (hw : WkAt w B Wk T wv way) {g : Nat} (hg : wv.ownBlock = some g) : g ≠ Wk := by
  rintro rfl
  obtain ⟨c, h3⟩ := own_obj hw.own hg
  have := hw.hW
  rw [h3] at this
  simp at this
/-- the name has been laid on the way -/
theorem push_wk {wv1 : Value} {w5 : World} {t : TypeId} (ht : TabAt w B T R Dn lv L U done) (hw : WkAt w B Wk T wv way) (hown : w5.ownsRow B 9 1 wv1 (way.length + 1) (way.map sv ++ [sv n])) (hg : (w.alloc (.cells #[sv n] t)).grownBy w5 wv.ownBlock)
    (hat : wv1.ownBlock = wv.ownBlock ∨ wv1.ownBlock = some (w.alloc (.cells #[sv n] t)).heap.size) :
    TabAt (w5.setCell ⟨Wk, 1, none⟩ wv1) B T R Dn lv L U done ∧ WkAt (w5.setCell ⟨Wk, 1, none⟩ wv1) B Wk T wv1 (way ++ [n]) ∧ Ch (ChgV T Dn Wk wv) w (w5.setCell ⟨Wk, 1, none⟩ wv1) ∧ NewOr w wv wv1 := by
  have c1 : Ch (fun k => some k = wv.ownBlock) w w5 := by
    have h1 := ch_new (below_alloc w (.cells #[sv n] t)) (fun k => some k = wv.ownBlock)
    exact h1.trans (ch_grown hg)
  have c2 : Ch (fun k => k = Wk ∨ some k = wv.ownBlock) w (w5.setCell ⟨Wk, 1, none⟩ wv1) := (c1.imp fun i _ h => .inr h).trans ((ch_set w5 Wk 1 wv1).imp fun i _ h => .inl h)
  have hW5 : w5.heap[Wk]? = some (.cells #[.pointer (some ⟨T, 0, none⟩), wv] 71 (0, 0)) := (c1.kp (fun e => wk_ne hw e.symm rfl)).at_ hw.hW
  refine ⟨ht.kpv hw c2 fun _ h => h, ⟨heap_setCell_same w5 Wk 1 _ _ wv1 hW5, ?_, hw.lo⟩, c2.imp fun i _ h => h.elim (fun e => .inr (.inr (.inl e))) fun e => .inr (.inr (.inr e)), ?_⟩
  · have hne : ∀ g, wv1.ownBlock = some g → ¬ g = Wk := by
      rintro g hg2 rfl
      obtain ⟨c, h3⟩ := own_obj hown hg2
      rw [hW5] at h3
      simp at h3
    have := own_kp hown fun g hg2 => (ch_set w5 Wk 1 wv1).kp (hne g hg2)
    simpa using this
  · intro b hb
    rcases hat with h | h
    · exact .inl (h ▸ hb)
    · rw [h] at hb
      cases hb
      exact .inr (by simp)
theorem own_shrink {base g cap k : Nat} {t : TypeId} {xs : List Value} (h : w.ownsRow base t 1 (.slice (some ⟨g, 0, none⟩) (k + 1) cap) (k + 1) xs) : w.ownsRow base t 1 (.slice (some ⟨g, 0, none⟩) k cap) k (xs.take k) := by
  obtain ⟨hl, ⟨h, _⟩ | ⟨g', cap', cur, h, hbg, hh, hnc, hcm, hsz, htk⟩⟩ := h
  · cases h
  cases h
  refine ⟨by rw [List.length_take]; omega, .inr ⟨g, cap, cur, rfl, hbg, hh, by omega, hcm, hsz, ?_⟩⟩
  rw [← htk, List.take_take]
  congr 1
  omega
/-- .. and is taken off it -/
theorem pop_wk {g cap : Nat} {w7 : World} (ht : TabAt w7 B T R Dn lv L U done) (hw : WkAt w7 B Wk T (.slice (some ⟨g, 0, none⟩) (way.length + 1) cap) (way ++ [n])) (hc : Below w7.heap.size (w7.setCell ⟨Wk, 1, none⟩ (.slice (some ⟨g, 0, none⟩) way.length cap)) w') (hs : w'.heap.size = w7.heap.size) :
    TabAt w' B T R Dn lv L U done ∧ WkAt w' B Wk T (.slice (some ⟨g, 0, none⟩) way.length cap) way ∧ Ch (fun k => k = Wk) w7 w' := by
  have c1 : Ch (fun k => k = Wk) w7 w' := (ch_set w7 Wk 1 (.slice (some ⟨g, 0, none⟩) way.length cap)).trans ⟨hc.os, hc.tape, hc.output, hc.size, fun k hk _ => hc.block k (by simpa using hk)⟩
  refine ⟨ht.kpv hw c1 fun _ h => .inl h, ⟨?_, ?_, hw.lo⟩, c1⟩
  · have h1 := heap_setCell_same w7 Wk 1 _ _ (.slice (some ⟨g, 0, none⟩) way.length cap) hw.hW
    exact (hc.block Wk (Array.getElem?_eq_some_iff.1 hw.hW).1).trans h1
  · have h2 := hw.own
    rw [List.length_append, List.length_singleton] at h2
    have h3 := own_shrink h2
    have h4 : ((way ++ [n]).map sv).take way.length = way.map sv := by
      rw [List.map_append]
      exact List.take_left' (by simp)
    rw [h4] at h3
    exact own_kp h3 fun g' hg' => c1.kp (wk_ne hw hg')
theorem wrap_succ (k : Nat) : wrap64 (wrap64 (k : Nat) + 1) = wrap64 ((k + 1 : Nat) : Int) := by unfold wrap64; omega
/-- the value is remembered -/
theorem done_tab {w9 : World} (ht : TabAt w B T R Dn lv L U done) (hw : WkAt w B Wk T wv way) (hm : MapIs sv w9 Dn (updF (fun s => (lookP done s).map sv) n (sv v))) (hg : w.grownBy w9 (some Dn)) (hk : lookP done n = none) (hv : v.length ≤ 4096) :
    TabAt (w9.setCell ⟨T, 3, none⟩ (.int .i64 (wrap64 (wrap64 (done.length : Nat) + 1)))) B T R Dn lv L U (done ++ [(n, v)]) ∧ WkAt (w9.setCell ⟨T, 3, none⟩ (.int .i64 (wrap64 (wrap64 (done.length : Nat) + 1)))) B Wk T wv way ∧
      Ch (fun k => k = T ∨ k = Dn) w (w9.setCell ⟨T, 3, none⟩ (.int .i64 (wrap64 (wrap64 (done.length : Nat) + 1)))) := by
  have c1 : Ch (fun k => k = T ∨ k = Dn) w (w9.setCell ⟨T, 3, none⟩ (.int .i64 (wrap64 (wrap64 (done.length : Nat) + 1)))) := ((ch_grown hg).imp fun i _ h => .inr (by simpa using h)).trans ((ch_set w9 T 3 _).imp fun i _ h => .inl h)
  obtain ⟨es, c, hR⟩ := ht.raw.obj
  obtain ⟨es', c', hDn⟩ := ht.dn.obj
  have hTD : T ≠ Dn := by rintro rfl; have := ht.hT; rw [hDn] at this; cases this
  have hT9 := ((ch_grown hg).kp (k := T) (fun e => hTD (by simpa using e))).at_ ht.hT
  have key : ∀ {k : Nat} {o : Obj}, w.heap[k]? = some o → (∀ c, o ≠ .cells c 66 (0, 0)) → (k ≠ Dn) → Kp w (w9.setCell ⟨T, 3, none⟩ (.int .i64 (wrap64 (wrap64 (done.length : Nat) + 1)))) k := by
    intro k o hk h1 h2
    refine c1.kp fun hd => ?_
    rcases hd with e | e
    · subst e; have := ht.hT; rw [hk] at this; cases this; exact h1 _ rfl
    · exact h2 e
  refine ⟨⟨?_, ht.raw.kp (key hR (by simp) ht.ne), ?_, own_kp ht.own fun g hg' => ?_, ht.lo, ht.ne, ?_⟩, hw.kp (key hw.hW (by simp) ?_) fun g hg' => ?_, c1⟩
  · have := heap_setCell_same w9 T 3 _ _ (.int .i64 (wrap64 (wrap64 (done.length : Nat) + 1))) hT9
    rw [this, wrap_succ]
    simp
  · have h2 : (fun s => (lookP (done ++ [(n, v)]) s).map sv) = updF (fun s => (lookP done s).map sv) n (sv v) := by
      funext s
      rw [lookP_snoc done n v s hk]
      unfold updF
      split <;> rfl
    rw [h2]
    exact hm.kp ((ch_set w9 T 3 _).kp (fun e => hTD e.symm))
  · obtain ⟨c, h3⟩ := own_obj ht.own hg'
    exact key h3 (by simp) (by rintro rfl; rw [hDn] at h3; cases h3)
  · intro p hp
    rcases List.mem_append.1 hp with hp | hp
    · exact ht.small p hp
    · simp at hp; subst hp; exact hv
  · rintro rfl; have := hw.hW; rw [hDn] at this; cases this
  · obtain ⟨c, h3⟩ := own_obj hw.own hg'
    exact key h3 (by simp) (by rintro rfl; rw [hDn] at h3; cases h3)
end
end Go.Proofs.Ytpgdioopkcfjdaa
