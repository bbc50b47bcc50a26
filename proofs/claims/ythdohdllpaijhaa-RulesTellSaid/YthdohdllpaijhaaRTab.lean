/- The table of ways: the walk. -/
import Derived.Test.YthdohdllpaijhaaROn
namespace Go.Proofs.Ythdohdllpaijhaa.RTab
open Go Go.RowKit Go.Proofs.Ythdohdllpaijhaa.RMod Go.Proofs.Ythdohdllpaijhaa.RCnt Go.Proofs.Ythdohdllpaijhaa.RMap Go.Proofs.Ythdohdllpaijhaa.ROn Go.Proofs.Ythdohdllpaijhaa.RAlone Go.Proofs.Ythdohdllpaijhaa.Hp Go.Proofs.Ythdohdllpaijhaa.Rd
set_option linter.unusedVariables false
set_option linter.unusedSimpArgs false

def Row (w : World) (g : Nat) (e : TypeId) (n : Nat) (f : Nat → Value) : Prop := ∃ C : Array Value, w.heap[g]? = some (.cells C e (0, 0)) ∧ ∀ i, i ≤ n → C[i]? = some (f i)

theorem Row.keep {w w' : World} {g n : Nat} {e : TypeId} {f : Nat → Value} (h : Row w g e n f) (hh : w'.heap[g]? = w.heap[g]?) : Row w' g e n f := by
  obtain ⟨C, h1, h2⟩ := h
  exact ⟨C, by rw [hh]; exact h1, h2⟩
theorem Row.lt {w : World} {g n : Nat} {e : TypeId} {f : Nat → Value} (h : Row w g e n f) : g < w.heap.size := by obtain ⟨C, h1, _⟩ := h; exact lt_of h1
theorem Row.at {w : World} {g n i : Nat} {e : TypeId} {f : Nat → Value} (h : Row w g e n f) (hi : i ≤ n) : w.cell? ⟨g, i, none⟩ = some (f i) ∧ w.frozen? ⟨g, i, none⟩ = false := by
  obtain ⟨C, h1, h2⟩ := h
  exact ⟨by rw [cell_of h1]; exact h2 i hi, free_of h1 i⟩
theorem Row.set {w : World} {g n i : Nat} {e : TypeId} {f : Nat → Value} (h : Row w g e n f) (hi : i ≤ n) (v : Value) : Row (w.setCell ⟨g, i, none⟩ v) g e n (fun k => if k = i then v else f k) := by
  obtain ⟨C, h1, h2⟩ := h
  refine ⟨_, set_self h1 v, fun k hk => ?_⟩
  have hC : i < C.size := by
    rcases Nat.lt_or_ge i C.size with h | h
    · exact h
    · have := h2 i hi; rw [Array.getElem?_eq_none h] at this; cases this
  rw [Array.getElem?_setIfInBounds]
  by_cases hki : k = i
  · subst hki; simp [hC]
  · rw [if_neg (fun h => hki h.symm)]; simp only [if_neg hki]; exact h2 k hk
theorem Row.made {w w1 : World} {n : Nat} {e : TypeId} {z : Value} (hz : z.cells = #[z]) (h : w1.ownsRow w.heap.size e 1 (.slice (some ⟨w.heap.size, 0, none⟩) (n + 1) (n + 1)) (n + 1) (madeCells z.cells ((n + 1) * 1)).toList) : Row w1 w.heap.size e n fun _ => z := by
  rw [hz, Nat.mul_one, madeCells_one] at h
  refine ⟨_, new_of_made h, fun i hi => ?_⟩
  rw [List.getElem?_toArray, List.getElem?_replicate, if_pos (by omega)]

theorem tab_mono {w : World} {b n n' : Nat} {f : Int → Bool → Nat} (h : Tab w b n f) (hn : n ≤ n') : Tab w b n' f := by
  obtain ⟨D, h1, h2, h3⟩ := h
  exact ⟨D, h1.mono hn, h2, h3⟩

/-- k places, from the end on, are done. -/
def Tabs (w : World) (cb n k : Nat) (T : Nat → Int → Bool → Nat) : Prop :=
  ∃ f : Nat → Value, Row w cb 38 n f ∧ ∀ j, n + 1 ≤ j + k → j ≤ n → ∃ b, f j = .map (some b) ∧ b ≠ cb ∧ Tab w b 256 (T j)

theorem Tabs.lt {w : World} {cb n k : Nat} {T : Nat → Int → Bool → Nat} (h : Tabs w cb n k T) : cb < w.heap.size := by obtain ⟨f, h, _⟩ := h; exact h.lt

/-- One place more. -/
theorem Tabs.next {w w1 w2 : World} {cb n k i bm : Nat} {T : Nat → Int → Bool → Nat} (h : Tabs w cb n k T) (hi : i + k = n) (hbm : bm = w.heap.size) (hw1 : (w.setCell ⟨cb, i, none⟩ (.map (some bm))).alloc (.map #[] 0) = w1)
    (hg : w1.grownBy w2 (some bm)) (ht : Tab w2 bm 256 (T i)) : Tabs w2 cb n (k + 1) T := by
  obtain ⟨f, hr, hd⟩ := h
  have hlt := hr.lt
  have g1 : w.grownBy w1 (some cb) := by rw [← hw1]; exact grown_alloc (grown_set (grown_refl _ _) (.inl rfl) _) _
  refine ⟨_, ((hr.set (i := i) (by omega) (.map (some bm))).keep (w' := w1) (by rw [← hw1]; exact heap_alloc_old _ _ (by rw [size_set]; exact hlt))).keep (w' := w2) (by rw [hg.block cb (by rw [← hw1]; simp [size_set]; omega) (by simp; omega)]), fun j h1 h2 => ?_⟩
  by_cases hj : j = i
  · subst hj
    exact ⟨bm, by simp, by omega, ht⟩
  · obtain ⟨b, e1, e2, e3⟩ := hd j (by omega) h2
    have hb := e3.lt
    exact ⟨b, by simp only [if_neg hj]; exact e1, e2, (e3.kept g1 (by simpa using e2)).kept hg (by simp; omega)⟩

/-- What is read on the way. -/
theorem Tabs.read {w w1 : World} {cb n k i bm : Nat} {T : Nat → Int → Bool → Nat} (h : Tabs w cb n k T) (hi : i + k = n) (hbm : bm = w.heap.size) (hw1 : (w.setCell ⟨cb, i, none⟩ (.map (some bm))).alloc (.map #[] 0) = w1) :
    cb < bm ∧ w1.cell? ⟨cb, i, none⟩ = some (.map (some bm)) ∧ Tab w1 bm 0 (fun _ _ => 0) ∧ w.grownBy w1 (some cb) ∧ bm < w1.heap.size ∧
    ∀ w2, w1.grownBy w2 (some bm) → i + 1 ≤ n → ∃ b, w2.cell? ⟨cb, 0 + (i + 1), none⟩ = some (.map (some b)) ∧ Tab w2 b 256 (T (i + 1)) := by
  obtain ⟨f, hr, hd⟩ := h
  have hlt := hr.lt
  have g1 : w.grownBy w1 (some cb) := by rw [← hw1]; exact grown_alloc (grown_set (grown_refl _ _) (.inl rfl) _) _
  have r1 := (hr.set (i := i) (by omega) (.map (some bm))).keep (w' := w1) (by rw [← hw1]; exact heap_alloc_old _ _ (by rw [size_set]; exact hlt))
  have ht : Tab w1 bm 0 (fun _ _ => 0) := by
    have := Tab.made (w.setCell ⟨cb, i, none⟩ (.map (some bm)))
    rw [hw1, size_set, ← hbm] at this
    exact this
  refine ⟨by omega, ?_, ht, g1, ht.lt, fun w2 hg hi2 => ?_⟩
  · have := (r1.at (i := i) (by omega)).1
    simpa using this
  · obtain ⟨b, e1, e2, e3⟩ := hd (i + 1) (by omega) hi2
    have hb := e3.lt
    refine ⟨b, ?_, (e3.kept g1 (by simpa using e2)).kept hg (by simp; omega)⟩
    rw [Nat.zero_add]
    refine grown_cell hg ?_ (by simp; omega)
    have := (r1.at (i := i + 1) hi2).1
    rw [this, if_neg (by omega), e1]

theorem info38 : (Try.prog.info? 38).map (fun i => (i.zero, i.size, i.bytes)) = some (some (.map none), 1, 8) := by kernel_rfl

/-- What is filled in: the keys ahead of K, and of K the first z states. -/
def fillF (T : Int → Bool → Nat) (K : Int) (z : Nat) (k : Int) (s : Bool) : Nat := if k < K ∨ k = K ∧ (if s then 1 else 0) < z then T k s else 0

theorem fill_full {T : Int → Bool → Nat} {low high : Int} (h : ∀ k s, 0 < T k s → low ≤ k ∧ k ≤ high) (k : Int) (s : Bool) : fillF T (high + 1) 0 k s = T k s := by
  unfold fillF
  have := h k s
  by_cases h1 : k < high + 1
  · rw [if_pos (.inl h1)]
  · rw [if_neg (by simp [h1])]; omega

theorem fill_none {T : Int → Bool → Nat} {low high : Int} (h : ∀ k s, 0 < T k s → low ≤ k ∧ k ≤ high) (k : Int) (s : Bool) : 0 = fillF T low 0 k s := by
  unfold fillF
  have := h k s
  by_cases h1 : k < low
  · rw [if_pos (.inl h1)]; omega
  · rw [if_neg (by simp [h1])]

theorem fill_over {T : Int → Bool → Nat} {K : Int} (k : Int) (s : Bool) : fillF T K 2 k s = fillF T (K + 1) 0 k s := by
  unfold fillF
  by_cases h : k < K
  · rw [if_pos (.inl h), if_pos (.inl (by omega))]
  · by_cases h2 : k = K
    · rw [if_pos (.inr ⟨h2, by cases s <;> simp⟩), if_pos (.inl (by omega))]
    · rw [if_neg (by simp [h, h2]), if_neg (by omega)]

theorem fill_skip {T : Int → Bool → Nat} {K : Int} (h : ∀ s, T K s = 0) (k : Int) (s : Bool) : fillF T K 0 k s = fillF T (K + 1) 0 k s := by
  rw [← fill_over]
  unfold fillF
  by_cases h1 : k < K
  · rw [if_pos (.inl h1), if_pos (.inl h1)]
  · by_cases h2 : k = K
    · subst h2; rw [if_neg (by simp), h]; simp
    · rw [if_neg (by simp [h1, h2]), if_neg (by simp [h1, h2])]

theorem fill_zero {T : Int → Bool → Nat} {K : Int} {z : Nat} {s0 : Bool} (hz : z = if s0 then 1 else 0) (h : T K s0 = 0) (k : Int) (s : Bool) : fillF T K z k s = fillF T K (z + 1) k s := by
  unfold fillF
  by_cases h1 : k < K
  · rw [if_pos (.inl h1), if_pos (.inl h1)]
  · by_cases h2 : k = K
    · subst h2
      subst hz
      cases s <;> cases s0 <;> simp [h]
    · rw [if_neg (by simp [h1, h2]), if_neg (by simp [h1, h2])]

theorem fill_put {T : Int → Bool → Nat} {K : Int} {z : Nat} {s0 : Bool} (hz : z = if s0 then 1 else 0) (k : Int) (s : Bool) : (if k = K ∧ s = s0 then T K s0 else fillF T K z k s) = fillF T K (z + 1) k s := by
  unfold fillF
  by_cases h1 : k < K
  · rw [if_neg (by omega), if_pos (.inl h1), if_pos (.inl h1)]
  · by_cases h2 : k = K
    · subst h2
      subst hz
      cases s <;> cases s0 <;> simp
    · rw [if_neg (by simp [h2]), if_neg (by simp [h1, h2]), if_neg (by simp [h1, h2])]

set_option maxHeartbeats 4000000 in
set_option maxRecDepth 100000 in
theorem table_calls (r : Ru) (ao : Option Addr) (cp : Nat) (g : List Int) (n : Nat) (w : World) (hn : g.length = n + 1) (hok : OkG r g) (hv : Ils w (.slice ao g.length cp) g) :
    Calls Try.prog 18 #[.agg #[.int .i64 r.low, .int .i64 r.high, .bool r.above, .int .i64 r.leap, .int .i64 r.classes], .slice ao g.length cp] w
      fun e w' => ∃ cb, e = .returned (.slice (some ⟨cb, 0, none⟩) (n + 1) (n + 1)) ∧ w.heap.size ≤ cb ∧ Hid (Tabs w' cb n (n + 1) fun i => tabC r g (n - i)) ∧ Hid (w.grownBy w' none) := by
  have HN := Lib.hid hn
  have hlen := hok.len
  have HOK := Lib.hid hok
  have HV := Lib.hid hv
  rw [hn] at hlen ⊢
  obtain ⟨low, high, above, leap, classes⟩ := r
  have hrs := hok.rules
  unfold okR at hrs
  simp only at hrs
  obtain ⟨q0, q1, q2, _, _, _⟩ := hrs
  clear hok hv hn
  obtain ⟨T, hT⟩ : ∃ T : Nat → Int → Bool → Nat, (fun i => tabC ⟨low, high, above, leap, classes⟩ g (n - i)) = T := ⟨_, rfl⟩
  have TT : Hid (∀ i, tabC ⟨low, high, above, leap, classes⟩ g (n - i) = T i) := fun i => by rw [← hT]
  have TR : Hid (∀ i k s, 0 < T i k s → low ≤ k ∧ k ≤ high) := fun i k s h => by rw [← TT.out] at h; exact tabC_range h
  have TL : Hid (∀ i k s, T i k s ≤ cap) := fun i k s => by rw [← TT.out]; exact tabC_le _ _ _ _ _
  rw [hT]
  have A : Hid (∀ (i : Nat) (k : Int) (w' : World), i ≤ n → w.grownBy w' none → low ≤ k ∧ k ≤ high → ∃ a : Int, (a ≠ 0 → ∀ s, T i k s = 0) ∧ (a = 0 → ∀ s, T i k s = onC ⟨low, high, above, leap, classes⟩ g (n - i) k s) ∧
      Calls Try.prog 20 #[.agg #[.int .i64 low, .int .i64 high, .bool above, .int .i64 leap, .int .i64 classes], .slice ao (n + 1) cp, .int .i64 (i : Int), .int .i64 k] w' fun e w'' => e = .returned (.int .i64 a) ∧ Hid (w'.grownBy w'' none)) := by
    intro i k w' hi hg hk
    have h := alone_calls ⟨low, high, above, leap, classes⟩ ao cp g i k w' HOK.out (Ils.grown HV.out hg) (by rw [HN.out]; omega) (by omega)
    rw [HN.out] at h
    have e : g.length - 1 - (n - i) = i := by rw [HN.out]; omega
    refine ⟨_, fun ha s => ?_, fun ha s => ?_, h⟩
    · rw [← TT.out]; unfold tabC; rw [e, if_neg ha]
    · rw [← TT.out]; unfold tabC; rw [e, if_pos ha]
  have O : Hid (∀ (i : Nat) (k : Int) (s : Bool) (cb : Nat) (w' : World), i ≤ n → w.grownBy w' none → low ≤ k ∧ k ≤ high → (i + 1 ≤ n → ∃ bm, w'.cell? ⟨cb, 0 + (i + 1), none⟩ = some (.map (some bm)) ∧ Tab w' bm 256 (T (i + 1))) →
      Calls Try.prog 23 #[.slice (some ⟨cb, 0, none⟩) (n + 1) (n + 1), .agg #[.int .i64 low, .int .i64 high, .bool above, .int .i64 leap, .int .i64 classes], .slice ao (n + 1) cp, .int .i64 (i : Int), .agg #[.int .i64 k, .bool s]] w'
        fun e w'' => e = .returned (.int .i64 (onC ⟨low, high, above, leap, classes⟩ g (n - i) k s : Nat)) ∧ Hid (w'.grownBy w'' none)) := by
    intro i k s cb w' hi hg hk hc
    have h := on_calls ⟨low, high, above, leap, classes⟩ ao cp g i k s cb 256 w' HOK.out (Ils.grown HV.out hg) (by rw [HN.out]; omega) (by omega) (fun hi2 => by
      obtain ⟨bm, h1, h2⟩ := hc (by rw [HN.out] at hi2; omega)
      refine ⟨bm, h1, ?_⟩
      rw [show g.length - 1 - (i + 1) = n - (i + 1) from by rw [HN.out]; rfl, TT.out]
      exact h2)
    rw [HN.out] at h
    exact h
  have hbig := TT.out 0
  clear hbig hT
  obtain ⟨i0, hi, hz0, hz1, hz2⟩ := info_parts info38
  have hmm := @run_makeMap Try.prog
  obtain ⟨n1, hn1⟩ : ∃ n1, n + 1 = n1 := ⟨_, rfl⟩
  have HN1 := Lib.hid hn1
  rw [hn1] at hlen A O ⊢
  have hn1' : 0 < n1 := by omega
  clear hn1
  go_enter Try.func18, Try.ntmps18
  go_wp2_with (at_make; refine wpList_make_full _ rfl _ _ 40 rfl (w.heap.size + 1) 38 i0 (.map none) 1 Try.underlying40 hi hz0 hz1 _ _ _ _ n1 rfl rfl rfl rfl (by rw [hz2]; omega) (by unfold maxLen; omega) (by simp) ?_; intro w2 hown2 hg2; have HOW2 := Lib.hid hown2; have HG2 := Lib.hid hg2; clear hown2 hg2)
  obtain ⟨wa, hwa⟩ : ∃ wa, w.alloc (.cells #[.int .i64 low, .int .i64 high, .bool above, .int .i64 leap, .int .i64 classes] 23) = wa := ⟨_, rfl⟩
  obtain ⟨gb, hgb⟩ : ∃ gb, w.heap.size = gb := ⟨_, rfl⟩
  have hwas : wa.heap.size = gb + 1 := by rw [← hwa, ← hgb]; simp
  have HGA : Hid (w.grownBy wa none) := by unfold Hid; rw [← hwa]; exact grown_alloc (grown_refl _ _) _
  have hrow : wa.heap[gb]? = some (.cells #[.int .i64 low, .int .i64 high, .bool above, .int .i64 leap, .int .i64 classes] 23 (0, 0)) := by rw [← hwa, ← hgb]; exact heap_alloc_new _ _
  rw [hwa] at HOW2 HG2
  have HT0 : Hid (Tabs w2 (gb + 1) n 0 T) := by
    have h := HOW2.out
    rw [hgb, ← HN1.out, ← hwas] at h
    have hr := Row.made rfl h
    rw [hwas] at hr
    exact ⟨_, hr, fun j h1 h2 => absurd h1 (by omega)⟩
  have HROW : Hid (w2.heap[gb]? = some (.cells #[.int .i64 low, .int .i64 high, .bool above, .int .i64 leap, .int .i64 classes] 23 (0, 0))) := by
    unfold Hid; rw [HG2.out.block gb (by omega) (by simp)]; exact hrow
  have HGW : Hid (w.grownBy w2 none) := grown_trans HGA.out HG2.out
  have hw2s : gb + 1 < w2.heap.size := HT0.out.lt
  simp only [hgb]
  have HGB := Lib.hid hgb
  clear hgb hwa hwas HGA hrow HOW2 HG2 hi hz0 hz1 hz2
  go_loopw [6] (fun v6 wr => ∃ k : Nat, k ≤ n1 ∧ v6 = .int .i64 ((n1 : Int) - 1 - k) ∧ Hid (Tabs wr (gb + 1) n k T) ∧ Hid (w2.grownBy wr (some (gb + 1)))) (fun v6 _ => (intOf v6 + 1).toNat)
  case atStart => exact ⟨0, Nat.zero_le _, by rw [Value.int.injEq]; exact ⟨rfl, by omega⟩, HT0.out, grown_refl _ _⟩
  case round =>
    obtain ⟨k, hk, rfl, HT, HG⟩ := hrel
    by_cases hend : k = n1
    · subst hend
      have hz : (k : Int) - 1 - k = -1 := by omega
      rw [hz]
      go_wp2_with fail
      go_ret
      refine ⟨gb + 1, ?_, ?_, ?_, ?_⟩
      · rfl
      · rw [HGB.out]; omega
      · exact HT.out
      · exact grown_from HGW.out HG.out (.inl (by rw [HGB.out]; omega))
    obtain ⟨i, hi⟩ : ∃ i : Nat, (n1 : Int) - 1 - k = i := ⟨n1 - 1 - k, by omega⟩
    have hik : i + k = n := by have := HN1.out; unfold Hid at this; omega
    have hin : i < n1 := by omega
    have hikn : i + k + 1 = n1 := by have := HN1.out; unfold Hid at this; omega
    rw [hi]
    clear hi
    have hcbl : gb + 1 < wr.heap.size := HT.out.lt
    have HX : Hid (wr.cell? ⟨gb + 1, i, none⟩ = some (.map none) ∨ True) := .inr trivial
    obtain ⟨f, hr, hd⟩ := HT.out
    have hra : Row (wr.alloc (.map #[] 0)) (gb + 1) 38 n f := hr.keep (heap_alloc_old _ _ hcbl)
    obtain ⟨x1, x2⟩ := hra.at (i := i) (by omega)
    clear hra hr hd
    go_upto_region 6 with fail
    clear x1 x2 HX
    obtain ⟨bm, hbm⟩ : ∃ bm, wr.heap.size = bm := ⟨_, rfl⟩
    obtain ⟨W1, hW1⟩ : ∃ W1, (wr.setCell ⟨gb + 1, i, none⟩ (.map (some bm))).alloc (.map #[] 0) = W1 := ⟨_, rfl⟩
    obtain ⟨hb1, hcell, htab0, hgr1, hbW, hread⟩ := HT.out.read hik hbm.symm hW1
    have HREAD := Lib.hid hread
    have HCELL := Lib.hid hcell
    have HGR1 := Lib.hid hgr1
    have HTAB0 := Lib.hid htab0
    have HNEXT := Lib.hid (fun w2 hg ht => HT.out.next (w2 := w2) hik hbm.symm hW1 hg ht)
    have HGW1 : Hid (w.grownBy W1 none) := grown_from HGW.out (grown_trans HG.out HGR1.out) (.inl (by rw [HGB.out]; omega))
    have HROW1 : Hid (W1.heap[gb]? = some (.cells #[.int .i64 low, .int .i64 high, .bool above, .int .i64 leap, .int .i64 classes] 23 (0, 0))) := by
      unfold Hid; rw [HGR1.out.block gb (by omega) (by simp), HG.out.block gb (by omega) (by simp)]; exact HROW.out
    have HGO : Hid (w2.grownBy W1 (some (gb + 1))) := grown_trans HG.out HGR1.out
    have hb2 : w2.heap.size ≤ bm := by rw [← hbm]; exact HG.out.size
    simp only [hbm, hW1]
    clear hread hcell hgr1 htab0 hW1
    have c0 := cell_of HROW1.out 0
    go_wp2_with fail
    go_loopw [7] (fun v7 wq => ∃ (K : Int) (cnt : Nat), low ≤ K ∧ K ≤ high + 1 ∧ v7 = .int .i64 K ∧ (cnt : Int) ≤ 2 * (K - low) ∧ Hid (Tab wq bm cnt (fillF (T i) K 0)) ∧ Hid (W1.grownBy wq (some bm))) (fun v7 _ => (high + 1 - intOf v7).toNat)
    case atStart => exact ⟨low, 0, by omega, by omega, rfl, by omega, HTAB0.out.congr (fill_none (TR.out i)), grown_refl _ _⟩
    case round =>
      obtain ⟨K, cnt, hK0, hK1, rfl, hcnt, HTK, HGK⟩ := hrel
      have HRK : wr.heap[gb]? = some (.cells #[.int .i64 low, .int .i64 high, .bool above, .int .i64 leap, .int .i64 classes] 23 (0, 0)) := by
        rw [HGK.out.block gb (by omega) (by simp; omega)]; exact HROW1.out
      have r0 := cell_of HRK 0
      have r1 := cell_of HRK 1
      have r2 := cell_of HRK 2
      have r3 := cell_of HRK 3
      have r4 := cell_of HRK 4
      clear HRK c0
      have HGQ : Hid (w.grownBy wr none) := grown_from HGW1.out HGK.out (.inl (by rw [HGB.out]; omega))
      by_cases hKe : K = high + 1
      · subst hKe
        go_wp2_with fail
        refine ⟨⟨k + 1, by omega, by rw [Value.int.injEq]; exact ⟨rfl, by omega⟩, ?_, grown_from HGO.out HGK.out (.inl hb2)⟩, by simp only [intOf]; omega⟩
        exact HNEXT.out _ HGK.out (tab_mono (HTK.out.congr (fill_full (TR.out i))) (by omega))
      · have hK2 : K ≤ high := by omega
        have hin2 : i ≤ n := by omega
        obtain ⟨al, ha0, ha1, hacall⟩ := A.out i K wr hin2 HGQ.out ⟨hK0, hK2⟩
        have HAC := Lib.hid hacall
        have HA0 := Lib.hid ha0
        have HA1 := Lib.hid ha1
        clear hacall ha0 ha1
        by_cases hal : al = 0
        · subst hal
          have HON := Lib.hid (HA1.out rfl)
          clear HA0 HA1
          go_upto_region 10 with (go_at_call 20; refine (HAC.out).mono ?_; rintro e w5 ⟨rfl, hg5⟩)
          have HT5 : Hid (Tab w5 bm cnt (fillF (T i) K 0)) := HTK.out.kept hg5.out (by simp)
          have HG5 : Hid (W1.grownBy w5 (some bm)) := grown_trans HGK.out (grown_none hg5.out _)
          have hbw5 : bm < w5.heap.size := HT5.out.lt
          clear HTK hg5 HAC r0 r1 r2 r3 r4
          go_wp2_with fail
          obtain ⟨sb, hsb⟩ : ∃ sb, w5.heap.size = sb := ⟨_, rfl⟩
          obtain ⟨W3, hW3⟩ : ∃ W3, w5.alloc (.cells #[.bool false, .bool true] 4) = W3 := ⟨_, rfl⟩
          have HS3 : Hid (W3.heap[sb]? = some (.cells #[.bool false, .bool true] 4 (0, 0))) := by unfold Hid; rw [← hW3, ← hsb]; exact heap_alloc_new _ _
          have HT3 : Hid (Tab W3 bm cnt (fillF (T i) K 0)) := by unfold Hid; rw [← hW3]; exact HT5.out.kept (grown_alloc (grown_refl _ none) _) (by simp)
          have HG3 : Hid (W1.grownBy W3 (some bm)) := by unfold Hid; rw [← hW3]; exact grown_alloc HG5.out _
          have HMN : Hid (w5.grownBy W3 none) := by unfold Hid; rw [← hW3]; exact grown_alloc (grown_refl _ none) _
          have hs3 : sb < W3.heap.size := by rw [← hW3, ← hsb]; simp
          rw [hsb] at hbw5
          simp only [hsb, hW3]
          clear hsb hW3 HT5 HG5 HMN
          go_loopw [41] (fun v41 wz => ∃ (z cnt2 : Nat), z ≤ 2 ∧ v41 = .int .i64 (z : Int) ∧ (cnt2 : Int) ≤ 2 * (K - low) + z ∧ Hid (Tab wz bm cnt2 (fillF (T i) K z)) ∧ Hid (W3.grownBy wz (some bm))) (fun v41 _ => 2 - (intOf v41).toNat)
          case atStart => exact ⟨0, cnt, by omega, rfl, by omega, HT3.out, grown_refl _ _⟩
          case round =>
            obtain ⟨z, cnt2, hz, rfl, hcnt2, HTZ, HGZ⟩ := hrel
            by_cases hz2 : z = 2
            · subst hz2
              go_wp2_with fail
              refine ⟨⟨K + 1, cnt2, by omega, by omega, rfl, by omega, ?_, grown_trans HG3.out HGZ.out⟩, by simp only [intOf]; omega⟩
              exact HTZ.out.congr fill_over
            obtain ⟨s0, hs0, hcs⟩ : ∃ s0 : Bool, (z = if s0 then 1 else 0) ∧ wr.cell? ⟨sb, z, none⟩ = some (.bool s0) := by
              have h := cell_of (HGZ.out.block sb hs3 (by simp; omega) ▸ HS3.out : wr.heap[sb]? = some (.cells #[.bool false, .bool true] 4 (0, 0))) z
              have : z = 0 ∨ z = 1 := by omega
              rcases this with rfl | rfl
              · exact ⟨false, rfl, h⟩
              · exact ⟨true, rfl, h⟩
            have HGZ1 : Hid (W1.grownBy wr (some bm)) := grown_trans HG3.out HGZ.out
            have HRZ : wr.heap[gb]? = some (.cells #[.int .i64 low, .int .i64 high, .bool above, .int .i64 leap, .int .i64 classes] 23 (0, 0)) := by
              rw [HGZ1.out.block gb (by omega) (by simp; omega)]; exact HROW1.out
            have r0 := cell_of HRZ 0
            have r1 := cell_of HRZ 1
            have r2 := cell_of HRZ 2
            have r3 := cell_of HRZ 3
            have r4 := cell_of HRZ 4
            have HGQ2 : Hid (w.grownBy wr none) := grown_from HGW1.out HGZ1.out (.inl (by rw [HGB.out]; omega))
            have hcell := grown_cell HGZ1.out HCELL.out (by simp; omega)
            have HOC := Lib.hid (O.out i K s0 (gb + 1) wr hin2 HGQ2.out ⟨hK0, hK2⟩ (HREAD.out wr HGZ1.out))
            rw [← HON.out s0] at HOC
            have hml := TL.out i K s0
            obtain ⟨m, hm⟩ : ∃ m, T i K s0 = m := ⟨_, rfl⟩
            have HM := Lib.hid hm
            rw [hm] at HOC hml
            have HS0 := Lib.hid hs0
            have hcap : cap = 1000000000 := rfl
            rw [hcap] at hml
            have hkey := keyOf_kl (k := K) (s := s0) (wf_of (by omega) (by omega))
            clear HRZ hm hs0
            by_cases hm0 : m = 0
            · subst hm0
              go_wp2_with (go_at_call 23; refine (HOC.out).mono ?_; rintro e w6 ⟨rfl, hg6⟩)
              refine ⟨⟨z + 1, cnt2, by omega, by rw [Value.int.injEq]; exact ⟨rfl, by omega⟩, by omega, ?_, grown_trans HGZ.out (grown_none hg6.out _)⟩, by simp only [intOf]; omega⟩
              exact (HTZ.out.kept hg6.out (by simp)).congr (fill_zero HS0.out HM.out)
            · have hmp : (0 : Int) < m := by omega
              go_upto_region 15 with (go_at_call 23; refine (HOC.out).mono ?_; rintro e w6 ⟨rfl, hg6⟩)
              have hcell6 := grown_cell hg6.out hcell (by simp)
              have HT6 : Hid (Tab w6 bm cnt2 (fillF (T i) K z)) := HTZ.out.kept hg6.out (by simp)
              have HG6 : Hid (W3.grownBy w6 (some bm)) := grown_trans HGZ.out (grown_none hg6.out _)
              obtain ⟨D, hown, hat, hhas⟩ := HT6.out
              have HAT := Lib.hid hat
              have HHAS := Lib.hid hhas
              have HOWN := Lib.hid hown
              clear hcell hg6 hat hhas HTZ HGZ
              go_wp2_with (at_mapUpdate; refine wpList_mapUpdate_own _ rfl _ _ _ 38 rfl 43 3 law43 under38 RI bm cnt2 D rfl hown (by unfold maxLen; omega) _ _ (kl K s0) rfl rfl hkey (.lit (.int .i64 (m : Int))) [] (plainElem_int under3 (wf_of (by omega) (by omega))) ?_; intro w7 hown7 hg7)
              refine ⟨⟨z + 1, cnt2 + 1, by omega, by rw [Value.int.injEq]; exact ⟨rfl, by omega⟩, by omega, ?_, grown_trans HG6.out hg7⟩, by simp only [intOf]; omega⟩
              exact (put_facts HOWN.out HAT.out HHAS.out (wf_of (by omega) (by omega)) (by omega : 0 < m) hown7).congr fun k s => by rw [← HM.out]; exact fill_put HS0.out k s
        · have hal' : (al != 0) = true := by simpa using hal
          have HZ := Lib.hid (HA0.out hal)
          clear HA0 HA1
          go_wp2_with (go_at_call 20; refine (HAC.out).mono ?_; rintro e w5 ⟨rfl, hg5⟩)
          refine ⟨⟨K + 1, cnt, by omega, by omega, rfl, by omega, ?_, grown_trans HGK.out (grown_none hg5.out _)⟩, by simp only [intOf]; omega⟩
          exact (HTK.out.kept hg5.out (by simp)).congr (fill_skip HZ.out)
end Go.Proofs.Ythdohdllpaijhaa.RTab
