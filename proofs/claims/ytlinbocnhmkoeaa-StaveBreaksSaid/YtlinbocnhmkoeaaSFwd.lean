/- The best lines to a box: one box after another, from the first one. -/
import Derived.Test.YtlinbocnhmkoeaaSBest
namespace Go.Proofs.Ytlinbocnhmkoeaa.SFwd
open Go.Proofs.Ytlinbocnhmkoeaa.SMod Go.Proofs.Ytlinbocnhmkoeaa.SBest

section
variable {l : List Bx} {W : Int}

theorem path_snoc {i f t : Nat} {p : List Nat} {d x : Int} (h : pathC l W i f p = some d) (hft : f < t) (hx : line l W f t = some x) : pathC l W i t (p ++ [t]) = some (d + x) := by
  induction p generalizing i d with
  | nil =>
    obtain ⟨rfl, rfl⟩ := path_nil h
    have := pathC_mk (l := l) (W := W) (r := []) (d := 0) hft (Nat.le_refl t) hx (by unfold pathC; rw [if_pos rfl])
    rw [Int.add_zero] at this
    rw [Int.zero_add]
    exact this
  | cons e r ih =>
    obtain ⟨h1, h2, c, y, h3, h4, rfl⟩ := pathC_cons h
    rw [List.cons_append, Int.add_assoc]
    exact pathC_mk h1 (by omega) h3 (ih h4)

theorem path_last {i t : Nat} {r : List Nat} {c : Int} (h : pathC l W i t r = some c) (hit : i < t) : ∃ p f d x, r = p ++ [t] ∧ pathC l W i f p = some d ∧ line l W f t = some x ∧ f < t ∧ c = d + x := by
  induction r generalizing i c with
  | nil => have := (path_nil h).1; omega
  | cons e r ih =>
    obtain ⟨h1, h2, a, y, h3, h4, rfl⟩ := pathC_cons h
    by_cases het : e < t
    · obtain ⟨p, f, d, x, rfl, g1, g2, g3, rfl⟩ := ih h4 het
      have hef := pathC_le g1
      exact ⟨e :: p, f, a + d, x, rfl, pathC_mk h1 hef h3 g1, g2, g3, by omega⟩
    · obtain rfl : e = t := by omega
      cases r with
      | nil =>
        obtain ⟨_, rfl⟩ := path_nil h4
        exact ⟨[], i, 0, a, rfl, by unfold pathC; rw [if_pos rfl], h3, h1, by omega⟩
      | cons u v => obtain ⟨k1, k2, _⟩ := pathC_cons h4; omega

/-- What the tables hold for a box. -/
structure Pf where
  there : Bool
  cost : Int
  way : List Nat

def noPf : Pf := ⟨false, 0, []⟩

def PRes (l : List Bx) (W : Int) (t : Nat) (s : Pf) : Prop := (s = noPf ∧ ∀ r, pathC l W 0 t r = none) ∨ (s.there = true ∧ Best l W 0 t s.cost s.way)

theorem pres_zero : PRes l W 0 ⟨true, 0, []⟩ := by
  refine .inr ⟨rfl, by unfold pathC; rw [if_pos rfl], fun r' c' h => ?_⟩
  cases r' with
  | nil => rw [(path_nil h).2]; exact better_irr 0 []
  | cons e s => obtain ⟨h1, h2, _⟩ := pathC_cons h; omega

/-- Among the ways to t that come from f or behind it. -/
def PUp (l : List Bx) (W : Int) (t f : Nat) (s : Pf) : Prop :=
  (s = noPf ∧ ∀ p f' d, f ≤ f' → f' < t → pathC l W 0 f' p = some d → line l W f' t = none) ∨
  (s.there = true ∧ pathC l W 0 t s.way = some s.cost ∧ ∀ p f' d x, f ≤ f' → f' < t → pathC l W 0 f' p = some d → line l W f' t = some x → better (d + x) (p ++ [t]) s.cost s.way = false)

theorem pup_start {t : Nat} : PUp l W t t noPf := .inl ⟨rfl, fun p f' d h1 h2 => by omega⟩

theorem pup_skip {t f : Nat} {s : Pf} (h : PUp l W t (f + 1) s) (hn : ∀ p d, pathC l W 0 f p = some d → line l W f t = none) : PUp l W t f s := by
  rcases h with ⟨h1, h2⟩ | ⟨h1, h2, h3⟩
  · refine .inl ⟨h1, fun p f' d hf ht hp => ?_⟩
    by_cases h : f' = f
    · subst h; exact hn p d hp
    · exact h2 p f' d (by omega) ht hp
  · refine .inr ⟨h1, h2, fun p f' d x hf ht hp hx => ?_⟩
    by_cases h : f' = f
    · subst h; rw [hn p d hp] at hx; cases hx
    · exact h3 p f' d x (by omega) ht hp hx

theorem pup_none {t f : Nat} {s q : Pf} (h : PUp l W t (f + 1) s) (hq : PRes l W f q) (h0 : q.there = false) : PUp l W t f s := by
  refine pup_skip h fun p d hp => ?_
  rcases hq with ⟨_, h2⟩ | ⟨h1, _⟩
  · rw [h2] at hp; cases hp
  · rw [h0] at h1; cases h1

theorem pup_more {t f : Nat} {s q : Pf} {x : Int} (h : PUp l W t (f + 1) s) (hft : f < t) (hq : PRes l W f q) (h0 : q.there = true) (hx : line l W f t = some x) :
    PUp l W t f (if s.there = false ∨ better (q.cost + x) (q.way ++ [t]) s.cost s.way = true then ⟨true, q.cost + x, q.way ++ [t]⟩ else s) := by
  have hb : Best l W 0 f q.cost q.way := by
    rcases hq with ⟨h1, _⟩ | ⟨_, h2⟩
    · rw [h1] at h0; cases h0
    · exact h2
  have hp := path_snoc hb.1 hft hx
  have hsame : ∀ p d, pathC l W 0 f p = some d → better (d + x) (p ++ [t]) (q.cost + x) (q.way ++ [t]) = false := by
    intro p d hpd
    rw [better_snoc]
    exact hb.2 _ _ hpd
  rcases h with ⟨h1, h2⟩ | ⟨h1, h2, h3⟩
  · rw [if_pos (.inl (by rw [h1]; rfl))]
    refine .inr ⟨rfl, hp, fun p f' d y hf ht hpd hy => ?_⟩
    by_cases h : f' = f
    · subst h
      rw [hx] at hy
      obtain rfl := Option.some.inj hy
      exact hsame p d hpd
    · rw [h2 p f' d (by omega) ht hpd] at hy; cases hy
  · by_cases hbt : better (q.cost + x) (q.way ++ [t]) s.cost s.way = true
    · rw [if_pos (.inr hbt)]
      refine .inr ⟨rfl, hp, fun p f' d y hf ht hpd hy => ?_⟩
      by_cases h : f' = f
      · subst h
        rw [hx] at hy
        obtain rfl := Option.some.inj hy
        exact hsame p d hpd
      · have h5 := h3 p f' d y (by omega) ht hpd hy
        cases hz : better (d + y) (p ++ [t]) (q.cost + x) (q.way ++ [t]) with
        | false => rfl
        | true => rw [better_trans hz hbt] at h5; cases h5
    · rw [if_neg (by rw [h1]; simp [hbt])]
      refine .inr ⟨h1, h2, fun p f' d y hf ht hpd hy => ?_⟩
      by_cases h : f' = f
      · subst h
        rw [hx] at hy
        obtain rfl := Option.some.inj hy
        exact better_not (hsame p d hpd) (by simpa using hbt)
      · exact h3 p f' d y (by omega) ht hpd hy

theorem pup_end {t : Nat} {s : Pf} (h : PUp l W t 0 s) (ht : 0 < t) : PRes l W t s := by
  rcases h with ⟨h1, h2⟩ | ⟨h1, h2, h3⟩
  · refine .inl ⟨h1, fun r => ?_⟩
    cases hp : pathC l W 0 t r with
    | none => rfl
    | some c =>
      obtain ⟨p, f, d, x, _, g1, g2, g3, _⟩ := path_last hp ht
      rw [h2 p f d (Nat.zero_le _) g3 g1] at g2; cases g2
  · refine .inr ⟨h1, h2, fun r' c' hp => ?_⟩
    obtain ⟨p, f, d, x, rfl, g1, g2, g3, rfl⟩ := path_last hp ht
    exact h3 p f d x (Nat.zero_le _) g3 g1 g2

theorem pup_bound {t f : Nat} {s : Pf} (ho : ∀ b ∈ l, okB b) (hl : l.length ≤ 1024) (hW : 1 ≤ W ∧ W ≤ 10000) (ht : t ≤ l.length) (h : PUp l W t f s) : 0 ≤ s.cost ∧ s.cost ≤ 429496729600000000 ∧ s.way.length ≤ 1024 := by
  rcases h with ⟨rfl, _⟩ | ⟨_, h2, _⟩
  · simp [noPf]
  · have := path_bound ho hl hW ht h2
    omega

theorem pres_bound {t : Nat} {s : Pf} (ho : ∀ b ∈ l, okB b) (hl : l.length ≤ 1024) (hW : 1 ≤ W ∧ W ≤ 10000) (ht : t ≤ l.length) (h : PRes l W t s) : 0 ≤ s.cost ∧ s.cost ≤ 429496729600000000 ∧ s.way.length ≤ t := by
  rcases h with ⟨rfl, _⟩ | ⟨_, h2⟩
  · simp [noPf]
  · have := path_bound ho hl hW ht h2.1
    omega

end
end Go.Proofs.Ytlinbocnhmkoeaa.SFwd
