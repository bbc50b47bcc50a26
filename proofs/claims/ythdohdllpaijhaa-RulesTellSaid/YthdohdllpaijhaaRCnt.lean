/- Counting ways, in plain Lean. -/
import Derived.Test.YthdohdllpaijhaaRMod
namespace Go.Proofs.Ythdohdllpaijhaa.RCnt
open Go Go.Proofs.Ythdohdllpaijhaa.RMod

def cap : Nat := 1000000000

/-- All states that there can be. -/
def uni (r : Ru) : List (Int × Bool) := (List.range (r.high - r.low + 1).toNat).flatMap fun j : Nat => [(r.low + (j : Int), false), (r.low + (j : Int), true)]

theorem mem_uni {r : Ru} {k : Int} {s : Bool} : (k, s) ∈ uni r ↔ r.low ≤ k ∧ k ≤ r.high := by
  unfold uni
  simp only [List.mem_flatMap, List.mem_range, List.mem_cons, Prod.mk.injEq, List.not_mem_nil, or_false]
  constructor
  · rintro ⟨j, hj, h⟩
    omega
  · intro h
    refine ⟨(k - r.low).toNat, by omega, ?_⟩
    cases s
    · exact .inl ⟨by omega, rfl⟩
    · exact .inr ⟨by omega, rfl⟩

theorem nodup_uni (r : Ru) : (uni r).Nodup := by
  unfold uni
  generalize (r.high - r.low + 1).toNat = m
  have key : ∀ l : List Nat, l.Nodup → (l.flatMap fun j : Nat => [(r.low + (j : Int), false), (r.low + (j : Int), true)]).Nodup := by
    intro l
    induction l with
    | nil => intro _; exact List.nodup_nil
    | cons a l ih =>
      intro h
      obtain ⟨h1, h2⟩ := List.nodup_cons.1 h
      rw [List.flatMap_cons, List.nodup_append]
      refine ⟨by simp, ih h2, ?_⟩
      intro x hx y hy hxy
      subst hxy
      simp only [List.mem_flatMap, List.mem_cons, List.not_mem_nil, or_false] at hx hy
      obtain ⟨j, hj, hy⟩ := hy
      have : j = a := by
        rcases hx with rfl | rfl <;> rcases hy with hy | hy <;> simp only [Prod.mk.injEq] at hy <;> omega
      subst this
      exact h1 hj
  exact key _ List.nodup_range

def sumL {α : Type} (l : List α) (F : α → Nat) : Nat := (l.map F).sum

theorem sumL_congr {α : Type} {l : List α} {F G : α → Nat} (h : ∀ t ∈ l, F t = G t) : sumL l F = sumL l G := by
  unfold sumL
  rw [List.map_congr_left h]

theorem sumL_zero {α : Type} {l : List α} {F : α → Nat} (h : ∀ t ∈ l, F t = 0) : sumL l F = 0 := by
  induction l with
  | nil => rfl
  | cons a l ih =>
    have h1 := h a (by simp)
    have h2 := ih fun t ht => h t (by simp [ht])
    unfold sumL at *
    simp only [List.map_cons, List.sum_cons]
    omega

theorem sumL_pos {α : Type} {l : List α} {F : α → Nat} : 0 < sumL l F ↔ ∃ t ∈ l, 0 < F t := by
  induction l with
  | nil => simp [sumL]
  | cons a l ih =>
    unfold sumL at *
    simp only [List.map_cons, List.sum_cons, List.mem_cons, exists_eq_or_imp]
    rw [← ih]
    omega

/-- One term more. -/
theorem sumL_one {α : Type} [DecidableEq α] {l : List α} (hn : l.Nodup) {t0 : α} (h0 : t0 ∈ l) {F G : α → Nat} (h : ∀ t ∈ l, t ≠ t0 → G t = F t) (hz : F t0 = 0) : sumL l G = sumL l F + G t0 := by
  induction l with
  | nil => cases h0
  | cons a l ih =>
    obtain ⟨h1, h2⟩ := List.nodup_cons.1 hn
    unfold sumL at *
    simp only [List.map_cons, List.sum_cons]
    by_cases ha : t0 = a
    · subst ha
      have : (l.map G).sum = (l.map F).sum := by
        rw [List.map_congr_left fun t ht => h t (by simp [ht]) (fun e => h1 (e ▸ ht))]
      omega
    · have h3 : t0 ∈ l := by
        rcases List.mem_cons.1 h0 with h | h
        · exact absurd h ha
        · exact h
      have := ih h2 h3 fun t ht hne => h t (by simp [ht]) hne
      have h4 := h a (by simp) (fun e => ha e.symm)
      omega

/-- Does a state go on to another one, d places ahead of the last one? -/
def okT (r : Ru) (g : List Int) (d : Nat) (t : Int × Bool) (key : Int) (same : Bool) : Bool :=
  (t.2 == decide (t.1 = key)) && (aloneZ r g (g.length - 1 - d) t.1 == 0) && (behindZ r g (g.length - 1 - d) t.1 key same == 0)

/-- In how many ways a line goes on behind a state, d places ahead of the last one: no more than 'cap'. -/
def onC (r : Ru) (g : List Int) : Nat → Int → Bool → Nat
  | 0, _, _ => 1
  | d + 1, key, same => min (sumL (uni r) fun t => if okT r g d t key same then onC r g d t.1 t.2 else 0) cap

def tabC (r : Ru) (g : List Int) (d : Nat) (k : Int) (s : Bool) : Nat := if aloneZ r g (g.length - 1 - d) k = 0 then onC r g d k s else 0

theorem alone_range {r : Ru} {g : List Int} {i : Nat} {k : Int} (h : aloneZ r g i k = 0) : r.low ≤ k ∧ k ≤ r.high := by
  unfold aloneZ at h
  split at h
  · cases h
  · omega

theorem onC_le (r : Ru) (g : List Int) (d : Nat) (k : Int) (s : Bool) : onC r g d k s ≤ cap := by
  cases d with
  | zero => show 1 ≤ cap; unfold cap; omega
  | succ d => exact Nat.min_le_right _ _

theorem tabC_le (r : Ru) (g : List Int) (d : Nat) (k : Int) (s : Bool) : tabC r g d k s ≤ cap := by
  unfold tabC
  split
  · exact onC_le _ _ _ _ _
  · omega

theorem tabC_range {r : Ru} {g : List Int} {d : Nat} {k : Int} {s : Bool} (h : 0 < tabC r g d k s) : r.low ≤ k ∧ k ≤ r.high := by
  unfold tabC at h
  split at h
  · rename_i h1; exact alone_range h1
  · omega

/-- The same by way of the table. -/
theorem onC_tab (r : Ru) (g : List Int) (d : Nat) (key : Int) (same : Bool) :
    onC r g (d + 1) key same = min (sumL (uni r) fun t => if (t.2 == decide (t.1 = key)) && (behindZ r g (g.length - 1 - d) t.1 key same == 0) then tabC r g d t.1 t.2 else 0) cap := by
  unfold onC
  congr 1
  refine sumL_congr fun t _ => ?_
  unfold okT tabC
  by_cases h1 : (t.2 == decide (t.1 = key)) = true <;> by_cases h2 : aloneZ r g (g.length - 1 - d) t.1 = 0 <;> by_cases h3 : (behindZ r g (g.length - 1 - d) t.1 key same == 0) = true <;> simp [h1, h2, h3]

def countC (r : Ru) (g : List Int) : Nat := min (sumL (uni r) fun t => if t.2 = false then tabC r g (g.length - 1) t.1 t.2 else 0) cap

theorem min_step (S m : Nat) : min (min S cap + m) cap = min (S + m) cap := by unfold cap; omega

end Go.Proofs.Ythdohdllpaijhaa.RCnt
