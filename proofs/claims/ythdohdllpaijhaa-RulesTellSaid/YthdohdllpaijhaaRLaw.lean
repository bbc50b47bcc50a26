/- The search is complete: plain. -/
import Derived.Test.YthdohdllpaijhaaRFnd
import Derived.Test.YthdohdllpaijhaaRCheck
import Derived.Test.YthdohdllpaijhaaRLess
namespace Go.Proofs.Ythdohdllpaijhaa.RLaw
open Go Go.Proofs.Ythdohdllpaijhaa.RMod Go.Proofs.Ythdohdllpaijhaa.RCnt Go.Proofs.Ythdohdllpaijhaa.RFnd Go.Proofs.Ythdohdllpaijhaa.RCheck Go.Proofs.Ythdohdllpaijhaa.RLess Go.Proofs.Ythdohdllpaijhaa.RCount
set_option linter.unusedVariables false
set_option linter.unusedSimpArgs false

/-- A line goes on so, from place i on. -/
def Cont (r : Ru) (g : List Int) : Nat → Int → Bool → List Int → Prop
  | _, _, _, [] => True
  | i, lk, ls, k :: t => aloneZ r g i k = 0 ∧ (i = 0 ∨ behindZ r g i k lk ls = 0) ∧ Cont r g (i + 1) k (decide (0 < i) && (k == lk)) t

theorem min_pos (S : Nat) : 0 < min S cap ↔ 0 < S := by unfold cap; omega

theorem on_pos (r : Ru) (g : List Int) : ∀ (d : Nat) (k : Int) (s : Bool), d + 1 ≤ g.length → (0 < onC r g d k s ↔ ∃ t : List Int, t.length = d ∧ Cont r g (g.length - d) k s t)
  | 0, k, s, _ => by
    constructor
    · intro _; exact ⟨[], rfl, trivial⟩
    · intro _; show 0 < 1; omega
  | d + 1, k, s, hd => by
    unfold onC
    rw [min_pos, sumL_pos]
    have ei : g.length - (d + 1) = g.length - 1 - d := by omega
    have ei2 : g.length - 1 - d + 1 = g.length - d := by omega
    constructor
    · rintro ⟨⟨k2, s2⟩, hm, h⟩
      simp only at h
      by_cases hok : okT r g d (k2, s2) k s = true
      · rw [if_pos hok] at h
        obtain ⟨t, ht, hc⟩ := (on_pos r g d k2 s2 (by omega)).1 h
        unfold okT at hok
        simp only [Bool.and_eq_true, beq_iff_eq] at hok
        obtain ⟨⟨h1, h2⟩, h3⟩ := hok
        refine ⟨k2 :: t, by simp [ht], ?_⟩
        rw [ei]
        refine ⟨h2, .inr h3, ?_⟩
        rw [ei2]
        have : (decide (0 < g.length - 1 - d) && (k2 == k)) = s2 := by
          rw [h1, decide_eq_true (by omega), Bool.true_and, Bool.eq_iff_iff]
          simp
        rw [this]
        exact hc
      · rw [if_neg hok] at h; omega
    · rintro ⟨t, ht, hc⟩
      cases t with
      | nil => simp at ht
      | cons k2 t =>
        rw [ei] at hc
        obtain ⟨h2, h3, hc⟩ := hc
        rw [ei2] at hc
        have hr := RCnt.alone_range h2
        have h3' : behindZ r g (g.length - 1 - d) k2 k s = 0 := by
          rcases h3 with h | h
          · omega
          · exact h
        refine ⟨(k2, decide (0 < g.length - 1 - d) && (k2 == k)), mem_uni.2 hr, ?_⟩
        have hok : okT r g d (k2, decide (0 < g.length - 1 - d) && (k2 == k)) k s = true := by
          unfold okT
          simp only [Bool.and_eq_true, beq_iff_eq]
          refine ⟨⟨?_, h2⟩, h3'⟩
          rw [decide_eq_true (p := 0 < g.length - 1 - d) (by omega), Bool.true_and, Bool.eq_iff_iff]
          simp
        simp only
        rw [if_pos hok]
        exact (on_pos r g d k2 _ (by omega)).2 ⟨t, by simpa using ht, hc⟩

theorem ok_iff (r : Ru) (g : List Int) {i : Nat} (hi : i < g.length) (lk : Int) (ls : Bool) (k : Int) :
    okK (tabF r g) r g i lk ls k = true ↔ ∃ t : List Int, t.length = g.length - 1 - i ∧ Cont r g i lk ls (k :: t) := by
  unfold okK tabF tabC
  have e1 : g.length - 1 - (g.length - 1 - i) = i := by omega
  have e2 : g.length - (g.length - 1 - i) = i + 1 := by omega
  have h := on_pos r g (g.length - 1 - i) k (decide (0 < i) && (k == lk)) (by omega)
  rw [e2] at h
  rw [e1]
  simp only [Bool.and_eq_true, decide_eq_true_eq, Bool.or_eq_true, ne_eq]
  constructor
  · rintro ⟨h1, h2⟩
    by_cases ha : aloneZ r g i k = 0
    · rw [if_pos ha] at h1
      obtain ⟨t, ht, hc⟩ := h.1 (by omega)
      exact ⟨t, ht, ha, h2, hc⟩
    · rw [if_neg ha] at h1; exact absurd rfl h1
  · rintro ⟨t, ht, ha, hb, hc⟩
    rw [if_pos ha]
    have := h.2 ⟨t, ht, hc⟩
    exact ⟨by omega, hb⟩

theorem mem_keys {r : Ru} {k : Int} (h : r.low ≤ k ∧ k ≤ r.high) : k ∈ keysR r := by
  unfold keysR
  simp only [List.mem_map, List.mem_range]
  exact ⟨(k - r.low).toNat, by omega, by omega⟩

theorem keys_sorted (r : Ru) : (keysR r).Pairwise (· < ·) := by
  unfold keysR
  rw [List.pairwise_map]
  exact List.Pairwise.imp (fun {a b} (h : a < b) => by omega) List.pairwise_lt_range

theorem pick_some {T : Nat → Int → Bool → Nat} {r : Ru} {g : List Int} {i : Nat} {lk : Int} {ls : Bool} {k : Int} (h : pick T r g i lk ls = some k) :
    okK T r g i lk ls k = true ∧ ∀ k2, k2 ∈ keysR r → okK T r g i lk ls k2 = true → k ≤ k2 := by
  unfold pick at h
  rw [List.find?_eq_some_iff_append] at h
  obtain ⟨hk, as1, bs1, e, hn⟩ := h
  refine ⟨hk, fun k2 hm h2 => ?_⟩
  have hs := keys_sorted r
  rw [e] at hm hs
  rw [List.pairwise_append] at hs
  obtain ⟨_, hs, _⟩ := hs
  obtain ⟨hs, _⟩ := List.pairwise_cons.1 hs
  rcases List.mem_append.1 hm with hm | hm
  · have := hn k2 hm
    rw [h2] at this
    cases this
  · rcases List.mem_cons.1 hm with rfl | hm
    · omega
    · have := hs k2 hm; omega

theorem find_law (r : Ru) (g : List Int) : ∀ (m i : Nat) (lk : Int) (ls : Bool), i + m = g.length →
    (findFrom (tabF r g) r g m i lk ls = none → ∀ t : List Int, t.length = m → ¬ Cont r g i lk ls t) ∧
    ∀ x, findFrom (tabF r g) r g m i lk ls = some x → x.length = m ∧ Cont r g i lk ls x ∧ ∀ t : List Int, t.length = m → Cont r g i lk ls t → lessL x t = true
  | 0, i, lk, ls, hi => by
    refine ⟨fun h => (by cases h), fun x h => ?_⟩
    obtain rfl : [] = x := Option.some.inj h
    exact ⟨rfl, trivial, fun t _ _ => by cases t <;> rfl⟩
  | m + 1, i, lk, ls, hi => by
    have hil : i < g.length := by omega
    have em : g.length - 1 - i = m := by omega
    unfold findFrom
    cases hp : pick (tabF r g) r g i lk ls with
    | none =>
      refine ⟨fun _ t ht hc => ?_, fun x h => by cases h⟩
      cases t with
      | nil => simp at ht
      | cons k t =>
        have hr := RCnt.alone_range hc.1
        have hok := (ok_iff r g hil lk ls k).2 ⟨t, by rw [em]; simpa using ht, hc⟩
        unfold pick at hp
        have := List.find?_eq_none.1 hp k (mem_keys hr)
        exact this hok
    | some k =>
      obtain ⟨hk, hmin⟩ := pick_some hp
      obtain ⟨t0, ht0, hc0⟩ := (ok_iff r g hil lk ls k).1 hk
      rw [em] at ht0
      obtain ⟨ih1, ih2⟩ := find_law r g m (i + 1) k (decide (0 < i) && (k == lk)) (by omega)
      simp only
      cases hf : findFrom (tabF r g) r g m (i + 1) k (decide (0 < i) && (k == lk)) with
      | none => exact absurd hc0.2.2 (ih1 hf t0 ht0)
      | some x' =>
        obtain ⟨hx1, hx2, hx3⟩ := ih2 x' hf
        refine ⟨fun h => by simp at h, fun x h => ?_⟩
        simp only [Option.map_some, Option.some.injEq] at h
        subst h
        refine ⟨by simp [hx1], ⟨hc0.1, hc0.2.1, hx2⟩, fun t ht hc => ?_⟩
        cases t with
        | nil => simp at ht
        | cons k2 t2 =>
          have hr := RCnt.alone_range hc.1
          have hok := (ok_iff r g hil lk ls k2).2 ⟨t2, by rw [em]; simpa using ht, hc⟩
          have hle := hmin k2 (mem_keys hr) hok
          unfold lessL
          by_cases hkk : k = k2
          · subst hkk
            rw [if_pos rfl]
            exact hx3 t2 (by simpa using ht) hc.2.2
          · rw [if_neg hkk]
            simp; omega

theorem cont_brk (r : Ru) (g l : List Int) : ∀ (m i : Nat) (lk : Int), i + m = l.length → (0 < i → lk = at_ l (i - 1)) → (Cont r g i lk (sameB l i) (l.drop i) ↔ ∀ j, i ≤ j → j < l.length → brkZ r g l j = 0)
  | 0, i, lk, hi, _ => by
    rw [List.drop_eq_nil_of_le (by omega)]
    exact ⟨fun _ j h1 h2 => absurd h2 (by omega), fun _ => trivial⟩
  | m + 1, i, lk, hi, hlk => by
    have hil : i < l.length := by omega
    have hat : at_ l i = l[i] := by unfold at_; rw [List.getD_eq_getElem?_getD, List.getElem?_eq_getElem hil]; rfl
    rw [List.drop_eq_getElem_cons hil, ← hat]
    have es : (decide (0 < i) && (at_ l i == lk)) = sameB l (i + 1) := by
      unfold sameB
      by_cases h0 : 0 < i
      · rw [hlk h0, decide_eq_true h0, decide_eq_true (by omega), show i + 1 - 1 = i from rfl, show i + 1 - 2 = i - 1 from by omega]
      · rw [decide_eq_false h0, decide_eq_false (by omega)]; rfl
    have ih := cont_brk r g l m (i + 1) (at_ l i) (by omega) (fun _ => by rw [Nat.add_sub_cancel])
    have eb : brkZ r g l i = 0 ↔ aloneZ r g i (at_ l i) = 0 ∧ (i = 0 ∨ behindZ r g i (at_ l i) lk (sameB l i) = 0) := by
      unfold brkZ
      by_cases h0 : 0 < i
      · rw [← hlk h0]
        by_cases ha : aloneZ r g i (at_ l i) = 0
        · rw [if_pos ⟨ha, h0⟩]
          exact ⟨fun h => ⟨ha, .inr h⟩, fun h => by rcases h.2 with h | h; omega; exact h⟩
        · rw [if_neg (fun h => ha h.1)]
          exact ⟨fun h => absurd h ha, fun h => h.1⟩
      · rw [if_neg (fun h => h0 h.2)]
        exact ⟨fun h => ⟨h, .inl (by omega)⟩, fun h => h.1⟩
    show (aloneZ r g i (at_ l i) = 0 ∧ (i = 0 ∨ behindZ r g i (at_ l i) lk (sameB l i) = 0) ∧ Cont r g (i + 1) (at_ l i) (decide (0 < i) && (at_ l i == lk)) (l.drop (i + 1))) ↔ _
    rw [es, ih, ← and_assoc, ← eb]
    constructor
    · rintro ⟨h1, h2⟩ j hj1 hj2
      by_cases h : j = i
      · rw [h]; exact h1
      · exact h2 j (by omega) hj2
    · intro h
      exact ⟨h i (Nat.le_refl _) hil, fun j h1 h2 => h j (by omega) h2⟩

theorem chkW_zero (r : Ru) (g l : List Int) : ∀ k, chkW r g l k = 0 ↔ ∀ j, j < k → brkZ r g l j = 0
  | 0 => ⟨fun _ j h => absurd h (by omega), fun _ => rfl⟩
  | k + 1 => by
    have ih := chkW_zero r g l k
    unfold chkW
    by_cases hw : chkW r g l k = 0
    · by_cases hb : brkZ r g l k = 0
      · rw [if_neg (fun h => h.1 hb)]
        refine ⟨fun _ j hj => ?_, fun _ => hw⟩
        by_cases h : j = k
        · rw [h]; exact hb
        · exact ih.1 hw j (by omega)
      · rw [if_pos ⟨hb, hw⟩]
        exact ⟨fun h => absurd h hb, fun h => h k (by omega)⟩
    · rw [if_neg (fun h => hw h.2)]
      exact ⟨fun h => absurd h hw, fun h => ih.2 fun j hj => h j (by omega)⟩

theorem cont_keys (r : Ru) (g : List Int) (hok : okR r) : ∀ (t : List Int) (i : Nat) (lk : Int) (ls : Bool), Cont r g i lk ls t → t.all keyB = true
  | [], _, _, _, _ => rfl
  | k :: t, i, lk, ls, h => by
    have hr := RCnt.alone_range h.1
    have hok2 := hok
    obtain ⟨a, b, _⟩ := hok
    rw [List.all_cons, cont_keys r g hok2 t _ _ _ h.2.2]
    unfold keyB
    rw [decide_eq_true (by omega), decide_eq_true (by omega)]
    rfl

theorem good_iff {r : Ru} {g l : List Int} (h0 : wrongR r g = 0) : (chkE r g l = 0 ∧ chkA r g l = 0) ↔ (l.length = g.length ∧ Cont r g 0 (-1) false l) := by
  have hok := (okG_of h0).rules
  have hb := cont_brk r g l l.length 0 (-1) (by omega) (fun h => absurd h (by omega))
  rw [List.drop_zero] at hb
  have e0 : sameB l 0 = false := rfl
  rw [e0] at hb
  constructor
  · rintro ⟨h1, h2⟩
    unfold chkA at h2
    rw [if_pos h1, chkW_zero] at h2
    unfold chkE at h1
    rw [if_pos h0] at h1
    split at h1
    · cases h1
    · rename_i hl
      exact ⟨by omega, hb.2 fun j _ hj => h2 j hj⟩
  · rintro ⟨h1, h2⟩
    have hk := cont_keys r g hok l _ _ _ h2
    have e : chkE r g l = 0 := by unfold chkE; rw [if_pos h0, if_neg (by omega), if_pos hk]
    refine ⟨e, ?_⟩
    unfold chkA
    rw [if_pos e, chkW_zero]
    exact fun j hj => hb.1 h2 j (by omega) hj

theorem count_pos {r : Ru} {g : List Int} (h0 : wrongR r g = 0) : 0 < countC r g ↔ ∃ t : List Int, t.length = g.length ∧ Cont r g 0 (-1) false t := by
  have hlen := (okG_of h0).len
  unfold countC
  rw [min_pos, sumL_pos]
  have h := fun k => ok_iff r g (i := 0) (by omega) (-1) false k
  constructor
  · rintro ⟨⟨k, s⟩, hm, hp⟩
    simp only at hp
    split at hp
    · rename_i hs
      subst hs
      obtain ⟨t, ht, hc⟩ := (h k).1 (by unfold okK tabF; simp only [Nat.sub_zero]; simp; omega)
      exact ⟨k :: t, by simp [ht]; omega, hc⟩
    · omega
  · rintro ⟨t, ht, hc⟩
    cases t with
    | nil => simp at ht; omega
    | cons k t =>
      have hr := RCnt.alone_range hc.1
      have := (h k).2 ⟨t, by simp at ht; omega, hc⟩
      refine ⟨(k, false), mem_uni.2 hr, ?_⟩
      simp only [if_true]
      unfold okK tabF at this
      simp only [Nat.sub_zero] at this
      simp at this
      omega

/-- What is found breaks nothing; a line that breaks nothing is not ahead of it. -/
theorem complete {r : Ru} {g : List Int} (h0 : wrongR r g = 0) :
    (findE r g = 0 → chkE r g (findL r g) = 0 ∧ chkA r g (findL r g) = 0 ∧ 1 ≤ cntV r g ∧ (findL r g).length = g.length) ∧ (findE r g ≠ 0 → findE r g = 6 ∧ cntV r g = 0) ∧
    ∀ l, chkE r g l = 0 → chkA r g l = 0 → findE r g = 0 ∧ lessL (findL r g) l = true := by
  have hl := find_law r g g.length 0 (-1) false (by omega)
  have hc := count_pos h0
  have hv : cntV r g = (countC r g : Int) := by unfold cntV; rw [if_pos h0]
  have hE : findE r g = match findC r g with | none => 6 | some _ => 0 := by unfold findE; rw [if_pos h0]; rfl
  have hL : findL r g = (findC r g).getD [] := by unfold findL; rw [if_pos h0]
  obtain ⟨l1, l2⟩ := hl
  change (findC r g = none → _) at l1
  change (∀ x, findC r g = some x → _) at l2
  cases hf : findC r g with
  | none =>
    rw [hf] at hE
    have hno := l1 hf
    refine ⟨fun h => (by rw [hE] at h; cases h), fun _ => ⟨hE, ?_⟩, fun l h1 h2 => ?_⟩
    · rw [hv]
      have : ¬ 0 < countC r g := fun h => by
        obtain ⟨t, ht, hc⟩ := hc.1 h
        exact hno t ht hc
      omega
    · obtain ⟨ha, hb⟩ := (good_iff h0).1 ⟨h1, h2⟩
      exact absurd hb (hno l ha)
  | some x =>
    rw [hf] at hE hL
    obtain ⟨hx1, hx2, hx3⟩ := l2 x hf
    have hL' : findL r g = x := hL
    rw [hL']
    refine ⟨fun _ => ?_, fun h => absurd hE h, fun l h1 h2 => ⟨hE, ?_⟩⟩
    · obtain ⟨ha, hb⟩ := (good_iff h0).2 ⟨hx1, hx2⟩
      have := hc.2 ⟨x, hx1, hx2⟩
      exact ⟨ha, hb, by rw [hv]; omega, hx1⟩
    · obtain ⟨ha, hb⟩ := (good_iff h0).1 ⟨h1, h2⟩
      exact hx3 l ha hb

end Go.Proofs.Ythdohdllpaijhaa.RLaw
