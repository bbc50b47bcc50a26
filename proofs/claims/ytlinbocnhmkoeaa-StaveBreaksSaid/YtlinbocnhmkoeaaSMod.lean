/- Lines of boxes: what is computed, in plain Lean: ways, their costs, which is better, which is best. -/
namespace Go.Proofs.Ytlinbocnhmkoeaa.SMod

structure Bx where
  wide : Int
  give : Int

def okB (b : Bx) : Prop := 1 ≤ b.wide ∧ b.wide ≤ 10000 ∧ 0 ≤ b.give ∧ b.give ≤ b.wide
instance (b : Bx) : Decidable (okB b) := by unfold okB; exact inferInstance

def wrongB : List Bx → Int
  | [] => 0
  | b :: r => if okB b then wrongB r else 3

def wrongS (l : List Bx) (W : Int) : Int := if 1024 < l.length then 5 else if W < 1 ∨ 10000 < W then 3 else wrongB l

theorem wrongB_ok {l : List Bx} (h : wrongB l = 0) : ∀ b ∈ l, okB b := by
  induction l with
  | nil => simp
  | cons x r ih =>
    unfold wrongB at h
    split at h
    · rename_i hx
      intro b hb
      rcases List.mem_cons.1 hb with rfl | hb
      · exact hx
      · exact ih h b hb
    · cases h

theorem wrongS_ok {l : List Bx} {W : Int} (h : wrongS l W = 0) : l.length ≤ 1024 ∧ 1 ≤ W ∧ W ≤ 10000 ∧ ∀ b ∈ l, okB b := by
  unfold wrongS at h
  split at h
  · cases h
  · split at h
    · cases h
    · exact ⟨by omega, by omega, by omega, wrongB_ok h⟩

/-- How wide boxes i to j are, and at least. -/
def sumW (l : List Bx) (i j : Nat) : Int := (((l.take j).drop i).map Bx.wide).sum
def sumL (l : List Bx) (i j : Nat) : Int := (((l.take j).drop i).map fun b => b.wide - b.give).sum

def lineC (W n least : Int) (last : Bool) : Option Int :=
  if W < least then none else if W < n then some (4 * (n - W) * (n - W)) else if last then some 0 else some ((n - W) * (n - W))

def line (l : List Bx) (W : Int) (i j : Nat) : Option Int := lineC W (sumW l i j) (sumL l i j) (decide (j = l.length))

theorem sum_snoc {α : Type} (l : List α) (f : α → Int) {i j : Nat} {b : α} (h : l[j]? = some b) (hij : i ≤ j) : (((l.take (j + 1)).drop i).map f).sum = (((l.take j).drop i).map f).sum + f b := by
  obtain ⟨hj, he⟩ := List.getElem?_eq_some_iff.1 h
  have h1 : l.take (j + 1) = l.take j ++ [b] := by rw [List.take_succ_eq_append_getElem hj, he]
  rw [h1, List.drop_append_of_le_length (by rw [List.length_take]; omega), List.map_append, List.sum_append]
  simp

theorem sumW_snoc (l : List Bx) {i j : Nat} {b : Bx} (h : l[j]? = some b) (hij : i ≤ j) : sumW l i (j + 1) = sumW l i j + b.wide := sum_snoc l Bx.wide h hij
theorem sumL_snoc (l : List Bx) {i j : Nat} {b : Bx} (h : l[j]? = some b) (hij : i ≤ j) : sumL l i (j + 1) = sumL l i j + (b.wide - b.give) := sum_snoc l (fun b => b.wide - b.give) h hij
theorem sumW_self (l : List Bx) (i : Nat) : sumW l i i = 0 := by unfold sumW; rw [List.drop_eq_nil_of_le (by rw [List.length_take]; omega)]; rfl
theorem sumL_self (l : List Bx) (i : Nat) : sumL l i i = 0 := by unfold sumL; rw [List.drop_eq_nil_of_le (by rw [List.length_take]; omega)]; rfl

theorem sum_bound {l : List Bx} {i j : Nat} (ho : ∀ b ∈ l, okB b) (hij : i ≤ j) (hj : j ≤ l.length) : 0 ≤ sumL l i j ∧ sumL l i j ≤ sumW l i j ∧ sumW l i j ≤ 10000 * ((j : Int) - i) := by
  induction j with
  | zero =>
    obtain rfl : i = 0 := by omega
    rw [sumW_self, sumL_self]; omega
  | succ j ih =>
    by_cases h : i = j + 1
    · subst h; rw [sumW_self, sumL_self]; omega
    · obtain ⟨b, hb⟩ : ∃ b, l[j]? = some b := ⟨l[j]'(by omega), List.getElem?_eq_getElem (by omega)⟩
      obtain ⟨h1, h2, h3⟩ := ih (by omega) (by omega)
      have hk := ho b (List.mem_of_getElem? hb)
      unfold okB at hk
      rw [sumW_snoc l hb (by omega), sumL_snoc l hb (by omega)]
      omega

theorem sumL_mono {l : List Bx} {i j k : Nat} (ho : ∀ b ∈ l, okB b) (hij : i ≤ j) (hjk : j ≤ k) (hk : k ≤ l.length) : sumL l i j ≤ sumL l i k := by
  induction k with
  | zero => obtain rfl : j = 0 := by omega
            exact Int.le_refl _
  | succ k ih =>
    by_cases h : j = k + 1
    · subst h; exact Int.le_refl _
    · obtain ⟨b, hb⟩ : ∃ b, l[k]? = some b := ⟨l[k]'(by omega), List.getElem?_eq_getElem (by omega)⟩
      have := ih (by omega) (by omega)
      have hk' := ho b (List.mem_of_getElem? hb)
      unfold okB at hk'
      rw [sumL_snoc l hb (by omega)]
      omega

/-- The cost of lines from box i to box t. -/
def pathC (l : List Bx) (W : Int) : Nat → Nat → List Nat → Option Int
  | i, t, [] => if i = t then some 0 else none
  | i, t, e :: r => if i < e ∧ e ≤ t then
      match line l W i e, pathC l W e t r with
      | some c, some d => some (c + d)
      | _, _ => none
    else none

theorem pathC_cons {l : List Bx} {W : Int} {i t e : Nat} {r : List Nat} {x : Int} (h : pathC l W i t (e :: r) = some x) : i < e ∧ e ≤ t ∧ ∃ c d, line l W i e = some c ∧ pathC l W e t r = some d ∧ x = c + d := by
  unfold pathC at h
  split at h
  · rename_i h1
    split at h
    · rename_i c d h2 h3
      exact ⟨h1.1, h1.2, c, d, h2, h3, (Option.some.inj h).symm⟩
    · cases h
  · cases h

theorem pathC_mk {l : List Bx} {W : Int} {i t e : Nat} {r : List Nat} {c d : Int} (h1 : i < e) (h2 : e ≤ t) (h3 : line l W i e = some c) (h4 : pathC l W e t r = some d) : pathC l W i t (e :: r) = some (c + d) := by
  unfold pathC
  rw [if_pos ⟨h1, h2⟩, h3, h4]

theorem pathC_le {l : List Bx} {W : Int} {i t : Nat} {r : List Nat} {x : Int} (h : pathC l W i t r = some x) : i ≤ t := by
  cases r with
  | nil => unfold pathC at h; split at h <;> simp_all
  | cons e r => obtain ⟨h1, h2, _⟩ := pathC_cons h; omega

/-- Of two lists of ends as long: is the first one's line longer where they first part? -/
def longer : List Nat → List Nat → Bool
  | a :: r, b :: s => if a = b then longer r s else decide (b < a)
  | _, _ => false

def better (c : Int) (a : List Nat) (d : Int) (b : List Nat) : Bool :=
  if c ≠ d then decide (c < d) else if a.length ≠ b.length then decide (a.length < b.length) else longer a b

theorem longer_snoc (a b : List Nat) (t : Nat) (h : a.length = b.length) : longer (a ++ [t]) (b ++ [t]) = longer a b := by
  induction a generalizing b with
  | nil => cases b with
    | nil => simp [longer]
    | cons => simp at h
  | cons x r ih => cases b with
    | nil => simp at h
    | cons y s =>
      simp only [List.cons_append, longer]
      rw [ih s (by simpa using h)]

theorem longer_irr (a : List Nat) : longer a a = false := by
  induction a with
  | nil => rfl
  | cons x r ih => simp [longer, ih]

theorem longer_total {a b : List Nat} (h : a.length = b.length) (h1 : longer a b = false) (h2 : longer b a = false) : a = b := by
  induction a generalizing b with
  | nil => cases b with
    | nil => rfl
    | cons => simp at h
  | cons x r ih => cases b with
    | nil => simp at h
    | cons y s =>
      simp only [longer] at h1 h2
      by_cases e : x = y
      · subst e
        simp only [if_true] at h1 h2
        rw [ih (by simpa using h) h1 h2]
      · rw [if_neg e] at h1
        rw [if_neg (fun h => e h.symm)] at h2
        simp only [decide_eq_false_iff_not] at h1 h2
        omega

theorem longer_trans {a b c : List Nat} (h : a.length = b.length) (h' : b.length = c.length) (h1 : longer a b = true) (h2 : longer b c = true) : longer a c = true := by
  induction a generalizing b c with
  | nil => simp [longer] at h1
  | cons x r ih => cases b with
    | nil => simp at h
    | cons y s => cases c with
      | nil => simp at h'
      | cons z u =>
        simp only [longer] at h1 h2 ⊢
        by_cases e : x = y
        · subst e
          simp only [if_true] at h1
          by_cases e2 : x = z
          · subst e2
            simp only [if_true] at h2 ⊢
            exact ih (by simpa using h) (by simpa using h') h1 h2
          · rw [if_neg e2] at h2 ⊢; exact h2
        · rw [if_neg e] at h1
          simp only [decide_eq_true_eq] at h1
          by_cases e2 : y = z
          · subst e2
            rw [if_neg e]; simpa using h1
          · rw [if_neg e2] at h2
            simp only [decide_eq_true_eq] at h2
            rw [if_neg (by omega)]; simp; omega

theorem better_cons (x y z : Int) (e : Nat) (a b : List Nat) : better (z + x) (e :: a) (z + y) (e :: b) = better x a y b := by
  unfold better
  simp only [List.length_cons, longer, if_true]
  by_cases h : x = y
  · subst h; simp
  · rw [if_pos (by omega), if_pos h]; simp

theorem better_snoc (x y z : Int) (e : Nat) (a b : List Nat) : better (x + z) (a ++ [e]) (y + z) (b ++ [e]) = better x a y b := by
  unfold better
  simp only [List.length_append, List.length_singleton]
  by_cases h : x = y
  · subst h
    simp only [ne_eq, not_true_eq_false, if_false]
    by_cases hl : a.length = b.length
    · rw [if_neg (by omega), if_neg (by omega), longer_snoc _ _ _ hl]
    · rw [if_pos (by omega), if_pos hl]; simp
  · rw [if_pos (by omega), if_pos h]; simp

theorem better_irr (c : Int) (a : List Nat) : better c a c a = false := by simp [better, longer_irr]

theorem better_total {c d : Int} {a b : List Nat} (h1 : better c a d b = false) (h2 : better d b c a = false) : c = d ∧ a = b := by
  unfold better at h1 h2
  by_cases h : c = d
  · subst h
    simp only [ne_eq, not_true_eq_false, if_false] at h1 h2
    by_cases hl : a.length = b.length
    · rw [if_neg (by omega)] at h1 h2
      exact ⟨rfl, longer_total hl h1 h2⟩
    · rw [if_pos hl] at h1
      rw [if_pos (fun h => hl h.symm)] at h2
      simp only [decide_eq_false_iff_not] at h1 h2
      omega
  · rw [if_pos h] at h1
    rw [if_pos (fun e => h e.symm)] at h2
    simp only [decide_eq_false_iff_not] at h1 h2
    omega

theorem better_trans {c d f : Int} {a b g : List Nat} (h1 : better c a d b = true) (h2 : better d b f g = true) : better c a f g = true := by
  unfold better at *
  by_cases e1 : c = d
  · subst e1
    simp only [ne_eq, not_true_eq_false, if_false] at h1
    by_cases e2 : c = f
    · subst e2
      simp only [ne_eq, not_true_eq_false, if_false] at h2 ⊢
      by_cases l1 : a.length = b.length
      · rw [if_neg (by omega)] at h1
        by_cases l2 : b.length = g.length
        · rw [if_neg (by omega)] at h2 ⊢
          exact longer_trans l1 l2 h1 h2
        · rw [if_pos l2] at h2
          simp only [decide_eq_true_eq] at h2
          rw [if_pos (by omega)]; simp; omega
      · rw [if_pos l1] at h1
        simp only [decide_eq_true_eq] at h1
        by_cases l2 : b.length = g.length
        · rw [if_pos (by omega)]; simp; omega
        · rw [if_pos l2] at h2
          simp only [decide_eq_true_eq] at h2
          rw [if_pos (by omega)]; simp; omega
    · rw [if_pos e2] at h2 ⊢; exact h2
  · rw [if_pos e1] at h1
    simp only [decide_eq_true_eq] at h1
    by_cases e2 : d = f
    · subst e2
      rw [if_pos e1]; simpa using h1
    · rw [if_pos e2] at h2
      simp only [decide_eq_true_eq] at h2
      rw [if_pos (by omega)]; simp; omega

/-- Not better than x, and x no better than y: not better than y. -/
theorem better_not {c d f : Int} {a b g : List Nat} (h1 : better c a d b = false) (h2 : better d b f g = false) : better c a f g = false := by
  cases h : better c a f g with
  | false => rfl
  | true =>
    exfalso
    cases h3 : better f g d b with
    | true => rw [better_trans h h3] at h1; cases h1
    | false =>
      obtain ⟨rfl, rfl⟩ := better_total h2 h3
      rw [h] at h1; cases h1

end Go.Proofs.Ytlinbocnhmkoeaa.SMod
