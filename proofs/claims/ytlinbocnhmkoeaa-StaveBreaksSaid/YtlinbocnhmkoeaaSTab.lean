/- The table of ways in memory. -/
import Derived.Test.YtlinbocnhmkoeaaSSum
namespace Go.Proofs.Ytlinbocnhmkoeaa.STab
open Go Go.RowKit Go.Proofs.Ytlinbocnhmkoeaa.SMod Go.Proofs.Ytlinbocnhmkoeaa.SBest Go.Proofs.Ytlinbocnhmkoeaa.SCost Go.Proofs.Ytlinbocnhmkoeaa.SWrong Go.Proofs.Ytlinbocnhmkoeaa.SSum Go.Proofs.Ytlinbocnhmkoeaa.Opn Go.Proofs.Ytlinbocnhmkoeaa.Hp Go.Proofs.Ytlinbocnhmkoeaa.Rd
set_option linter.unusedVariables false

def Tab (w : World) (g n : Nat) (f : Nat → Wy) : Prop := ∃ C : Array Value, w.heap[g]? = some (.cells C 43 (0, 0)) ∧
  ∀ i, i ≤ n → C[i * 3]? = some (.int .i64 (f i).cost) ∧ C[i * 3 + 1]? = some (.int .i64 (f i).lines) ∧ C[i * 3 + 2]? = some (.int .i64 (f i).stop)

theorem Tab.made {w w1 : World} {n : Nat} (h : w1.ownsRow w.heap.size 43 3 (.slice (some ⟨w.heap.size, 0, none⟩) (n + 1) (n + 1)) (n + 1) (madeCells (Value.agg #[.int .i64 0, .int .i64 0, .int .i64 0]).cells ((n + 1) * 3)).toList) :
    Tab w1 w.heap.size n fun _ => noWy := by
  obtain ⟨_, h | ⟨g, cap, cur, hv, _, hg, _, _, hs, ht⟩⟩ := h
  · simp at h
  · simp only [Value.slice.injEq, Option.some.injEq, Addr.mk.injEq, and_true] at hv
    obtain ⟨rfl, _, rfl⟩ := hv
    refine ⟨cur, hg, fun i hi => ?_⟩
    have hcur : cur = madeCells (Value.agg #[.int .i64 0, .int .i64 0, .int .i64 0]).cells ((n + 1) * 3) := by
      apply Array.ext'
      rw [← ht, List.take_of_length_le (by simp [hs])]
    have key : ∀ j, j < (n + 1) * 3 → cur[j]? = some (.int .i64 0) := by
      intro j hj
      rw [hcur]
      unfold madeCells
      rw [Array.getElem?_map, Array.getElem?_range, if_pos hj]
      simp only [Option.map_some, Option.some.injEq]
      show (#[Value.int .i64 0, .int .i64 0, .int .i64 0])[j % 3]! = _
      have : j % 3 = 0 ∨ j % 3 = 1 ∨ j % 3 = 2 := by omega
      rcases this with h | h | h <;> rw [h] <;> rfl
    exact ⟨key _ (by omega), key _ (by omega), key _ (by omega)⟩

theorem Tab.keep {w w' : World} {g n : Nat} {f : Nat → Wy} (h : Tab w g n f) (hh : w'.heap[g]? = w.heap[g]?) : Tab w' g n f := by
  obtain ⟨C, h1, h2⟩ := h
  exact ⟨C, by rw [hh]; exact h1, h2⟩

theorem Tab.lt {w : World} {g n : Nat} {f : Nat → Wy} (h : Tab w g n f) : g < w.heap.size := by obtain ⟨C, h1, _⟩ := h; exact lt_of h1

theorem Tab.grown {w w' : World} {g n : Nat} {f : Nat → Wy} (h : Tab w g n f) (hg : w.grownBy w' none) : Tab w' g n f := h.keep (hg.block g h.lt (by simp))

theorem Tab.at {w : World} {g n i : Nat} {f : Nat → Wy} (h : Tab w g n f) (hi : i ≤ n) :
    (w.cell? ⟨g, i * 3, none⟩ = some (.int .i64 (f i).cost) ∧ w.cell? ⟨g, i * 3 + 1, none⟩ = some (.int .i64 (f i).lines) ∧ w.cell? ⟨g, i * 3 + 2, none⟩ = some (.int .i64 (f i).stop)) ∧ ∀ o, w.frozen? ⟨g, o, none⟩ = false := by
  obtain ⟨C, h1, h2⟩ := h
  obtain ⟨a, b, c⟩ := h2 i hi
  exact ⟨⟨by rw [cell_of h1]; exact a, by rw [cell_of h1]; exact b, by rw [cell_of h1]; exact c⟩, fun o => free_of h1 o⟩

def upd (f : Nat → Wy) (i : Nat) (a : Wy) : Nat → Wy := fun k => if k = i then a else f k

theorem Tab.set {w : World} {g n i : Nat} {f : Nat → Wy} (h : Tab w g n f) (hi : i ≤ n) (a : Wy) :
    Tab (((w.setCell ⟨g, i * 3, none⟩ (.int .i64 a.cost)).setCell ⟨g, i * 3 + 1, none⟩ (.int .i64 a.lines)).setCell ⟨g, i * 3 + 2, none⟩ (.int .i64 a.stop)) g n (upd f i a) := by
  obtain ⟨C, h1, h2⟩ := h
  refine ⟨_, set_self (set_self (set_self h1 _) _) _, fun k hk => ?_⟩
  obtain ⟨s1, s2, s3⟩ := h2 i hi
  have hC : i * 3 + 2 < C.size := by
    rcases Nat.lt_or_ge (i * 3 + 2) C.size with h | h
    · exact h
    · rw [Array.getElem?_eq_none h] at s3; cases s3
  simp only [Array.getElem?_setIfInBounds, Array.size_setIfInBounds]
  unfold upd
  by_cases hki : k = i
  · subst hki
    simp only [if_true]
    refine ⟨?_, ?_, ?_⟩
    · rw [if_neg (by omega), if_neg (by omega), if_pos (by omega)]
    · rw [if_neg (by omega), if_pos (by omega)]
    · rw [if_pos (by omega)]
  · simp only [if_neg hki]
    obtain ⟨a1, a2, a3⟩ := h2 k hk
    refine ⟨?_, ?_, ?_⟩
    · rw [if_neg (by omega), if_neg (by omega), if_neg (by omega)]; exact a1
    · rw [if_neg (by omega), if_neg (by omega), if_neg (by omega)]; exact a2
    · rw [if_neg (by omega), if_neg (by omega), if_neg (by omega)]; exact a3

end Go.Proofs.Ytlinbocnhmkoeaa.STab
