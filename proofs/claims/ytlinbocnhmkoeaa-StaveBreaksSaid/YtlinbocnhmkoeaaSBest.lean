/- The best lines from a box on: one box after another, from the last one. -/
import Derived.Test.YtlinbocnhmkoeaaSMod
namespace Go.Proofs.Ytlinbocnhmkoeaa.SBest
open Go.Proofs.Ytlinbocnhmkoeaa.SMod

section
variable {l : List Bx} {W : Int}

def Best (l : List Bx) (W : Int) (i t : Nat) (c : Int) (r : List Nat) : Prop := pathC l W i t r = some c ∧ ∀ r' c', pathC l W i t r' = some c' → better c' r' c r = false

theorem Best.unique {i t : Nat} {c c' : Int} {r r' : List Nat} (h : Best l W i t c r) (h' : Best l W i t c' r') : c = c' ∧ r = r' := better_total (h'.2 _ _ h.1) (h.2 _ _ h'.1)

/-- What lies in the table for a box: nothing, or the best. -/
structure Wy where
  cost : Int
  lines : Int
  stop : Int

def enc (c : Int) (r : List Nat) : Wy := ⟨c, r.length, r.headD 0⟩
def noWy : Wy := ⟨0, 0, 0⟩

def Res (l : List Bx) (W : Int) (k : Nat) (a : Wy) : Prop := (a = noWy ∧ ∀ r, pathC l W k l.length r = none) ∨ ∃ c r, Best l W k l.length c r ∧ a = enc c r

theorem path_nil {i t : Nat} {x : Int} (h : pathC l W i t [] = some x) : i = t ∧ x = 0 := by
  unfold pathC at h
  split at h
  · exact ⟨by assumption, (Option.some.inj h).symm⟩
  · cases h

theorem res_end : Res l W l.length noWy := by
  refine .inr ⟨0, [], ⟨by unfold pathC; rw [if_pos rfl], fun r' c' h => ?_⟩, rfl⟩
  cases r' with
  | nil => rw [(path_nil h).2]; exact better_irr 0 []
  | cons e s => obtain ⟨h1, h2, _⟩ := pathC_cons h; omega

/-- Among the ways from i whose first line ends at j at the latest. -/
def Upto (l : List Bx) (W : Int) (i j : Nat) (a : Wy) : Prop :=
  (a = noWy ∧ ∀ e r, e ≤ j → pathC l W i l.length (e :: r) = none) ∨
  ∃ c e r, e ≤ j ∧ pathC l W i l.length (e :: r) = some c ∧ a = enc c (e :: r) ∧ ∀ e' r' c', e' ≤ j → pathC l W i l.length (e' :: r') = some c' → better c' (e' :: r') c (e :: r) = false

theorem upto_start {i : Nat} : Upto l W i i noWy := .inl ⟨rfl, fun e r he => by
  unfold pathC
  rw [if_neg (by omega)]⟩

/-- None fits further on. -/
theorem upto_break {i j : Nat} {a : Wy} (h : Upto l W i j a) (hi : i < l.length) (hn : ∀ e, j < e → e ≤ l.length → line l W i e = none) : Res l W i a := by
  have key : ∀ e r, j < e → pathC l W i l.length (e :: r) = none := by
    intro e r he
    cases hp : pathC l W i l.length (e :: r) with
    | none => rfl
    | some x =>
      obtain ⟨_, h2, c, d, h3, _⟩ := pathC_cons hp
      rw [hn e he h2] at h3; cases h3
  have key0 : pathC l W i l.length [] = none := by unfold pathC; rw [if_neg (by omega)]
  rcases h with ⟨h1, h2⟩ | ⟨c, e, r, h1, h2, h3, h4⟩
  · refine .inl ⟨h1, fun r => ?_⟩
    cases r with
    | nil => exact key0
    | cons e s =>
      by_cases he : e ≤ j
      · exact h2 e s he
      · exact key e s (by omega)
  · refine .inr ⟨c, e :: r, ⟨h2, fun r' c' h => ?_⟩, h3⟩
    cases r' with
    | nil => rw [key0] at h; cases h
    | cons e' s =>
      by_cases he : e' ≤ j
      · exact h4 e' s c' he h
      · rw [key e' s (by omega)] at h; cases h

theorem upto_end {i : Nat} {a : Wy} (h : Upto l W i l.length a) (hi : i < l.length) : Res l W i a := upto_break h hi (fun e h1 h2 => by omega)

/-- Where there is no way from behind the line. -/
theorem upto_skip {i j : Nat} {a b : Wy} (h : Upto l W i j a) (hr : Res l W (j + 1) b) (hj : j + 1 < l.length) (hb : b.stop = 0) : Upto l W i (j + 1) a := by
  have hno : ∀ r, pathC l W (j + 1) l.length r = none := by
    rcases hr with ⟨_, h2⟩ | ⟨c, r, h1, h2⟩
    · exact h2
    · exfalso
      subst h2
      cases r with
      | nil => have := (path_nil h1.1).1; omega
      | cons e s =>
        obtain ⟨h3, _⟩ := pathC_cons h1.1
        simp only [enc, List.headD_cons] at hb
        omega
  have key : ∀ r, pathC l W i l.length ((j + 1) :: r) = none := by
    intro r
    cases hp : pathC l W i l.length ((j + 1) :: r) with
    | none => rfl
    | some x =>
      obtain ⟨_, _, c, d, _, h4, _⟩ := pathC_cons hp
      rw [hno] at h4; cases h4
  rcases h with ⟨h1, h2⟩ | ⟨c, e, r, h1, h2, h3, h4⟩
  · refine .inl ⟨h1, fun e r he => ?_⟩
    by_cases h : e ≤ j
    · exact h2 e r h
    · obtain rfl : e = j + 1 := by omega
      exact key r
  · refine .inr ⟨c, e, r, by omega, h2, h3, fun e' r' c' he hp => ?_⟩
    by_cases h : e' ≤ j
    · exact h4 e' r' c' h hp
    · obtain rfl : e' = j + 1 := by omega
      rw [key r'] at hp; cases hp

/-- Which of two is better, as the table tells it. -/
def betterW (a b : Wy) : Bool := if b.stop = 0 ∨ a.cost ≠ b.cost then (decide (b.stop = 0) || decide (a.cost < b.cost)) else if a.lines ≠ b.lines then decide (a.lines < b.lines) else decide (b.stop < a.stop)

theorem betterW_num (ac al as bc bl bs : Int) : betterW ⟨ac, al, as⟩ ⟨bc, bl, bs⟩ = if bs = 0 ∨ ac ≠ bc then (decide (bs = 0) || decide (ac < bc)) else if al ≠ bl then decide (al < bl) else decide (bs < as) := rfl

theorem betterW_is {c d : Int} {e f : Nat} {r s : List Nat} (he : f < e) (hf : 0 < f) : betterW (enc c (e :: r)) (enc d (f :: s)) = better c (e :: r) d (f :: s) := by
  show betterW ⟨c, ((r.length + 1 : Nat) : Int), (e : Int)⟩ ⟨d, ((s.length + 1 : Nat) : Int), (f : Int)⟩ = _
  rw [betterW_num]
  unfold better
  simp only [List.length_cons, longer]
  have hf0 : ¬ (f : Int) = 0 := by omega
  rw [if_neg (show ¬ e = f from by omega)]
  by_cases h1 : c = d
  · subst h1
    rw [if_neg (show ¬ ((f : Int) = 0 ∨ c ≠ c) from by simp; omega), if_neg (show ¬ c ≠ c from by simp)]
    by_cases h2 : r.length = s.length
    · rw [if_neg (show ¬ ((r.length + 1 : Nat) : Int) ≠ ((s.length + 1 : Nat) : Int) from by omega), if_neg (show ¬ r.length + 1 ≠ s.length + 1 from by omega)]
      rw [Bool.eq_iff_iff]; simp
    · rw [if_pos (show ((r.length + 1 : Nat) : Int) ≠ ((s.length + 1 : Nat) : Int) from by omega), if_pos (show r.length + 1 ≠ s.length + 1 from by omega)]
      rw [Bool.eq_iff_iff]; simp
  · rw [if_pos (show (f : Int) = 0 ∨ c ≠ d from .inr h1), if_pos h1]
    rw [decide_eq_false hf0]; simp

/-- A line more. -/
theorem upto_more {i j : Nat} {a b : Wy} {c0 : Int} (h : Upto l W i j a) (hij : i ≤ j) (hj : j + 1 ≤ l.length) (hl : line l W i (j + 1) = some c0) (hr : Res l W (j + 1) b) (hb : ¬ (j + 1 < l.length ∧ b.stop = 0)) :
    Upto l W i (j + 1) (if betterW ⟨c0 + b.cost, 1 + b.lines, (j : Int) + 1⟩ a then ⟨c0 + b.cost, 1 + b.lines, (j : Int) + 1⟩ else a) := by
  obtain ⟨c1, r1, hbest, henc⟩ : ∃ c r, Best l W (j + 1) l.length c r ∧ b = enc c r := by
    rcases hr with ⟨h1, h2⟩ | h1
    · exfalso
      subst h1
      have hje : j + 1 = l.length := by
        rcases Nat.lt_or_ge (j + 1) l.length with h | h
        · exact absurd ⟨h, rfl⟩ hb
        · omega
      have := h2 []
      unfold pathC at this
      rw [if_pos hje] at this
      cases this
    · exact h1
  have hw : (⟨c0 + b.cost, 1 + b.lines, (j : Int) + 1⟩ : Wy) = enc (c0 + c1) ((j + 1) :: r1) := by
    subst henc
    simp only [enc, List.length_cons, List.headD_cons, Wy.mk.injEq, true_and]
    omega
  rw [hw]
  have hpath : pathC l W i l.length ((j + 1) :: r1) = some (c0 + c1) := pathC_mk (by omega) hj hl hbest.1
  have hsame : ∀ r' c', pathC l W i l.length ((j + 1) :: r') = some c' → better c' ((j + 1) :: r') (c0 + c1) ((j + 1) :: r1) = false := by
    intro r' c' hp
    obtain ⟨_, _, c, d, h3, h4, rfl⟩ := pathC_cons hp
    rw [hl] at h3
    obtain rfl := Option.some.inj h3
    rw [better_cons]
    exact hbest.2 _ _ h4
  rcases h with ⟨h1, h2⟩ | ⟨c, e, r, h1, h2, h3, h4⟩
  · have hbt : betterW (enc (c0 + c1) ((j + 1) :: r1)) a = true := by
      subst h1
      unfold betterW noWy
      simp
    rw [if_pos hbt]
    refine .inr ⟨c0 + c1, j + 1, r1, Nat.le_refl _, hpath, rfl, fun e' r' c' he hp => ?_⟩
    by_cases hh : e' ≤ j
    · rw [h2 e' r' hh] at hp; cases hp
    · obtain rfl : e' = j + 1 := by omega
      exact hsame r' c' hp
  · obtain ⟨hp1, _⟩ := pathC_cons h2
    have hbt : betterW (enc (c0 + c1) ((j + 1) :: r1)) a = better (c0 + c1) ((j + 1) :: r1) c (e :: r) := by
      subst h3
      exact betterW_is (by omega) (by omega)
    rw [hbt]
    cases hq : better (c0 + c1) ((j + 1) :: r1) c (e :: r) with
    | true =>
      rw [if_pos rfl]
      refine .inr ⟨c0 + c1, j + 1, r1, Nat.le_refl _, hpath, rfl, fun e' r' c' he hp => ?_⟩
      by_cases hh : e' ≤ j
      · have h5 := h4 e' r' c' hh hp
        cases hx : better c' (e' :: r') (c0 + c1) ((j + 1) :: r1) with
        | false => rfl
        | true => rw [better_trans hx hq] at h5; cases h5
      · obtain rfl : e' = j + 1 := by omega
        exact hsame r' c' hp
    | false =>
      rw [if_neg (by simp)]
      refine .inr ⟨c, e, r, by omega, h2, h3, fun e' r' c' he hp => ?_⟩
      by_cases hh : e' ≤ j
      · exact h4 e' r' c' hh hp
      · obtain rfl : e' = j + 1 := by omega
        exact better_not (hsame r' c' hp) hq

/-! ### bounds -/

theorem sq_le {d K : Int} (h0 : 0 ≤ d) (h1 : d ≤ K) : 0 ≤ d * d ∧ d * d ≤ K * K := ⟨Int.mul_nonneg h0 h0, Int.mul_le_mul h1 h1 h0 (by omega)⟩

theorem line_bound {i j : Nat} {c : Int} (ho : ∀ b ∈ l, okB b) (hl : l.length ≤ 1024) (hW : 1 ≤ W ∧ W ≤ 10000) (hij : i ≤ j) (hj : j ≤ l.length) (h : line l W i j = some c) : 0 ≤ c ∧ c ≤ 419430400000000 := by
  obtain ⟨b1, b2, b3⟩ := sum_bound ho hij hj
  unfold line lineC at h
  split at h
  · cases h
  · split at h
    · obtain rfl := Option.some.inj h
      have := sq_le (d := sumW l i j - W) (K := 10240000) (by omega) (by omega)
      rw [Int.mul_assoc]
      omega
    · split at h
      · obtain rfl := Option.some.inj h; omega
      · obtain rfl := Option.some.inj h
        have := sq_le (d := W - sumW l i j) (K := 10000) (by omega) (by omega)
        have e : (sumW l i j - W) * (sumW l i j - W) = (W - sumW l i j) * (W - sumW l i j) := by
          rw [show sumW l i j - W = -(W - sumW l i j) from by omega, Int.neg_mul_neg]
        omega

theorem path_bound {i t : Nat} {r : List Nat} {c : Int} (ho : ∀ b ∈ l, okB b) (hl : l.length ≤ 1024) (hW : 1 ≤ W ∧ W ≤ 10000) (ht : t ≤ l.length) (h : pathC l W i t r = some c) : 0 ≤ c ∧ c ≤ 419430400000000 * ((t : Int) - i) ∧ r.length ≤ t - i := by
  induction r generalizing i c with
  | nil => obtain ⟨rfl, rfl⟩ := path_nil h; simp
  | cons e r ih =>
    obtain ⟨h1, h2, x, y, h3, h4, rfl⟩ := pathC_cons h
    have hb := line_bound ho hl hW (by omega) (by omega) h3
    obtain ⟨i1, i2, i3⟩ := ih h4
    simp only [List.length_cons]
    omega

theorem res_bound {k : Nat} {a : Wy} (ho : ∀ b ∈ l, okB b) (hl : l.length ≤ 1024) (hW : 1 ≤ W ∧ W ≤ 10000) (hk : k ≤ l.length) (h : Res l W k a) : 0 ≤ a.cost ∧ a.cost ≤ 429496729600000000 ∧ 0 ≤ a.lines ∧ a.lines ≤ 1024 ∧ 0 ≤ a.stop ∧ a.stop ≤ 1024 := by
  rcases h with ⟨rfl, _⟩ | ⟨c, r, h1, rfl⟩
  · simp [noWy]
  · obtain ⟨b1, b2, b3⟩ := path_bound ho hl hW (Nat.le_refl _) h1.1
    unfold enc
    cases r with
    | nil => simp; omega
    | cons e s =>
      obtain ⟨_, h2, _⟩ := pathC_cons h1.1
      simp only [List.length_cons, List.headD_cons] at *
      omega

/-- Behind the first line of the best lie the best. -/
theorem best_tail {k e : Nat} {c : Int} {r : List Nat} {t : Nat} (h : Best l W k t c (e :: r)) : k < e ∧ e ≤ t ∧ ∃ c0 d, line l W k e = some c0 ∧ c = c0 + d ∧ Best l W e t d r := by
  obtain ⟨h1, h2, c0, d, h3, h4, h5⟩ := pathC_cons h.1
  refine ⟨h1, h2, c0, d, h3, h5, h4, fun r' c' hp => ?_⟩
  have := h.2 (e :: r') (c0 + c') (pathC_mk h1 h2 h3 hp)
  rw [h5, better_cons] at this
  exact this

end
end Go.Proofs.Ytlinbocnhmkoeaa.SBest
