/- Costs told and ways; where each box fits; ways behind the first line. -/
import Derived.Test.YtlinbocnhmkoeaaSBest
import Derived.Test.YtlinbocnhmkoeaaSSum
namespace Go.Proofs.Ytlinbocnhmkoeaa.SLaw
open Go.Proofs.Ytlinbocnhmkoeaa.SMod Go.Proofs.Ytlinbocnhmkoeaa.SBest Go.Proofs.Ytlinbocnhmkoeaa.SSum

section
variable {l : List Bx} {W : Int}

def toI (R : List Nat) : List Int := R.map fun n : Nat => (n : Int)

theorem costR_of_path {a : Nat} {R : List Nat} {c : Int} (all : Int) (h : pathC l W a l.length R = some c) : costR l W a all (toI R) = (all + c, 0) := by
  induction R generalizing a all c with
  | nil =>
    obtain ⟨rfl, rfl⟩ := path_nil h
    unfold toI costR
    simp
  | cons e r ih =>
    obtain ⟨h1, h2, x, y, h3, h4, rfl⟩ := pathC_cons h
    show costR l W a all ((e : Int) :: toI r) = _
    unfold costR
    rw [if_neg (by omega), Int.toNat_natCast, h3]
    simp only
    rw [ih (all + x) h4, Int.add_assoc]

theorem path_of_costR {a : Nat} {all : Int} {ends : List Int} (h : (costR l W a all ends).2 = 0) : ∃ R c, ends = toI R ∧ pathC l W a l.length R = some c ∧ (costR l W a all ends).1 = all + c := by
  induction ends generalizing a all with
  | nil =>
    unfold costR at h ⊢
    split at h
    · rename_i ha
      rw [if_pos ha]
      exact ⟨[], 0, rfl, by unfold pathC; rw [if_pos ha], by simp⟩
    · cases h
  | cons e r ih =>
    unfold costR at h ⊢
    split at h
    · cases h
    · rename_i h1
      rw [if_neg h1]
      split at h
      · cases h
      · rename_i c hc
        obtain ⟨R, d, hR, hp, hs⟩ := ih h
        refine ⟨e.toNat :: R, c + d, ?_, pathC_mk (by omega) (by omega) hc hp, ?_⟩
        · show e :: r = (e.toNat : Int) :: toI R
          rw [Int.toNat_of_nonneg (by omega), hR]
        · rw [hs, Int.add_assoc]

/-! ### where each box fits -/

def fitsB (l : List Bx) (W : Int) : Prop := ∀ b ∈ l, b.wide - b.give ≤ W

theorem sum_one {l : List Bx} {i : Nat} {b : Bx} (h : l[i]? = some b) : sumL l i (i + 1) = b.wide - b.give := by
  rw [sumL_snoc l h (Nat.le_refl _), sumL_self]; omega

theorem line_some {i j : Nat} (h : sumL l i j ≤ W) : ∃ c, line l W i j = some c := by
  unfold line lineC
  rw [if_neg (by omega)]
  split
  · exact ⟨_, rfl⟩
  · split
    · exact ⟨_, rfl⟩
    · exact ⟨_, rfl⟩

theorem path_of_fits (hf : fitsB l W) : ∀ k i : Nat, i + k = l.length → ∃ R c, pathC l W i l.length R = some c := by
  intro k
  induction k with
  | zero =>
    intro i hi
    exact ⟨[], 0, by unfold pathC; rw [if_pos (by omega)]⟩
  | succ k ih =>
    intro i hi
    obtain ⟨R, c, hR⟩ := ih (i + 1) (by omega)
    obtain ⟨b, hb⟩ : ∃ b, l[i]? = some b := ⟨l[i]'(by omega), List.getElem?_eq_getElem (by omega)⟩
    obtain ⟨d, hd⟩ := line_some (l := l) (W := W) (i := i) (j := i + 1) (by rw [sum_one hb]; exact hf b (List.mem_of_getElem? hb))
    exact ⟨(i + 1) :: R, d + c, pathC_mk (by omega) (by omega) hd hR⟩

theorem line_fits {i j : Nat} {c : Int} (h : line l W i j = some c) : sumL l i j ≤ W := by
  unfold line lineC at h
  split at h
  · cases h
  · omega

theorem sumL_split {i j k : Nat} (ho : ∀ b ∈ l, okB b) (hij : i ≤ j) (hjk : j < k) (hk : k ≤ l.length) {b : Bx} (hb : l[j]? = some b) : b.wide - b.give ≤ sumL l i k := by
  have h1 := sumL_mono (i := i) (j := j + 1) (k := k) ho (by omega) (by omega) hk
  have h2 := sumL_snoc l hb hij
  have h3 := sum_bound (i := i) (j := j) ho hij (by omega)
  omega

theorem fits_of_path (ho : ∀ b ∈ l, okB b) {i : Nat} {R : List Nat} {c : Int} (h : pathC l W i l.length R = some c) : ∀ j b, i ≤ j → l[j]? = some b → b.wide - b.give ≤ W := by
  induction R generalizing i c with
  | nil =>
    obtain ⟨rfl, _⟩ := path_nil h
    intro j b hj hb
    have := (List.getElem?_eq_some_iff.1 hb).1
    omega
  | cons e r ih =>
    obtain ⟨h1, h2, x, y, h3, h4, rfl⟩ := pathC_cons h
    intro j b hj hb
    by_cases hje : j < e
    · exact Int.le_trans (sumL_split ho hj hje h2 hb) (line_fits h3)
    · exact ih h4 j b (by omega) hb

/-! ### behind the first line -/

theorem drop_sumW (l : List Bx) (e i j : Nat) : sumW (l.drop e) i j = sumW l (i + e) (j + e) := by
  unfold sumW
  rw [List.take_drop, List.drop_drop, Nat.add_comm e j, Nat.add_comm e i]
theorem drop_sumL (l : List Bx) (e i j : Nat) : sumL (l.drop e) i j = sumL l (i + e) (j + e) := by
  unfold sumL
  rw [List.take_drop, List.drop_drop, Nat.add_comm e j, Nat.add_comm e i]

theorem drop_line {e i j : Nat} (he : e ≤ l.length) : line (l.drop e) W i j = line l W (i + e) (j + e) := by
  unfold line
  rw [drop_sumW, drop_sumL, List.length_drop]
  congr 1
  rw [Bool.eq_iff_iff]; simp; omega

theorem drop_path {e i t : Nat} {r : List Nat} (he : e ≤ l.length) : pathC (l.drop e) W i t r = pathC l W (i + e) (t + e) (r.map (· + e)) := by
  induction r generalizing i with
  | nil =>
    unfold pathC
    simp
  | cons x r ih =>
    simp only [List.map_cons]
    unfold pathC
    rw [drop_line he, ih]
    by_cases h : i < x ∧ x ≤ t
    · rw [if_pos h, if_pos (by omega)]
    · rw [if_neg h, if_neg (by omega)]

theorem path_above {i t : Nat} {r : List Nat} {c : Int} (h : pathC l W i t r = some c) : ∀ x ∈ r, i < x := by
  induction r generalizing i c with
  | nil => simp
  | cons e r ih =>
    obtain ⟨h1, h2, x, y, h3, h4, rfl⟩ := pathC_cons h
    intro z hz
    rcases List.mem_cons.1 hz with rfl | hz
    · exact h1
    · have := ih h4 z hz; omega

theorem better_map (c d : Int) (a b : List Nat) (e : Nat) : better c (a.map (· + e)) d (b.map (· + e)) = better c a d b := by
  unfold better
  simp only [List.length_map]
  have : ∀ a b : List Nat, longer (a.map (· + e)) (b.map (· + e)) = longer a b := by
    intro a
    induction a with
    | nil => intro b; cases b <;> rfl
    | cons x r ih => intro b; cases b with
      | nil => rfl
      | cons y s =>
        simp only [List.map_cons, longer]
        rw [ih s]
        by_cases h : x = y
        · subst h; simp
        · rw [if_neg h, if_neg (by omega)]; simp
  rw [this]

theorem unshift {e : Nat} {r : List Nat} (h : ∀ x ∈ r, e < x) : (r.map (· - e)).map (· + e) = r := by
  induction r with
  | nil => rfl
  | cons x r ih =>
    simp only [List.map_cons]
    rw [ih (fun y hy => h y (List.mem_cons_of_mem _ hy))]
    have := h x (List.mem_cons_self ..)
    congr 1
    omega

/-- The best lines behind a box, told by themselves. -/
theorem best_drop {e : Nat} {c : Int} {r : List Nat} (he : e ≤ l.length) (h : Best l W e l.length c r) : Best (l.drop e) W 0 (l.drop e).length c (r.map (· - e)) := by
  have hl : (l.drop e).length + e = l.length := by rw [List.length_drop]; omega
  refine ⟨?_, fun r' c' hp => ?_⟩
  · rw [drop_path he, hl, Nat.zero_add, unshift (path_above h.1)]
    exact h.1
  · rw [drop_path he, hl, Nat.zero_add] at hp
    have := h.2 _ _ hp
    rw [← better_map c' c r' (r.map (· - e)) e, unshift (path_above h.1)]
    exact this

theorem wrong_drop {e : Nat} (h : wrongS l W = 0) : wrongS (l.drop e) W = 0 := by
  obtain ⟨h1, h2, h3, h4⟩ := wrongS_ok h
  unfold wrongS
  rw [if_neg (by rw [List.length_drop]; omega), if_neg (by omega)]
  have : ∀ m : List Bx, (∀ b ∈ m, okB b) → wrongB m = 0 := by
    intro m
    induction m with
    | nil => intro _; rfl
    | cons x r ih =>
      intro hm
      unfold wrongB
      rw [if_pos (hm x (List.mem_cons_self ..))]
      exact ih fun b hb => hm b (List.mem_cons_of_mem _ hb)
  exact this _ fun b hb => h4 b (List.mem_of_mem_drop hb)

end
end Go.Proofs.Ytlinbocnhmkoeaa.SLaw
