/- Who reaches whom: the table that is filled, plain. -/
import Derived.Test.YtdliilmnfbgplaaGM8
import Derived.Test.YtdliilmnfbgplaaGM9
namespace Go.Proofs.Ytdliilmnfbgplaa.GRLoopP
open Go Go.Proofs.Ytdliilmnfbgplaa.GMod Go.Proofs.Ytdliilmnfbgplaa.GOrd
set_option linter.unusedVariables false
set_option linter.unusedSimpArgs false

/-- From one to the other, by way of those below m. -/
inductive PB (g : Gd) (m : Nat) : Nat → Nat → Prop
  | one {i k : Nat} : GOrd.Edge g i k → PB g m i k
  | more {i k j : Nat} : GOrd.Edge g i k → k < m → PB g m k j → PB g m i j
theorem PB.path {g : Gd} {m i k : Nat} (h : PB g m i k) : Path g i k := by
  induction h with
  | one h => exact .one h
  | more h _ _ ih => exact .more h ih
theorem PB.split {g : Gd} {m i j : Nat} (h : PB g (m + 1) i j) : PB g m i j ∨ (PB g m i m ∧ PB g m m j) := by
  induction h with
  | one h => exact .inl (.one h)
  | @more i k j he hk _ ih =>
    by_cases hkm : k = m
    · subst hkm
      rcases ih with h1 | ⟨h1, h2⟩
      · exact .inr ⟨.one he, h1⟩
      · exact .inr ⟨.one he, h2⟩
    · have hk2 : k < m := by omega
      rcases ih with h1 | ⟨h1, h2⟩
      · exact .inl (.more he hk2 h1)
      · exact .inr ⟨.more he hk2 h1, h2⟩
theorem PB.full {g : Gd} {N : Nat} (hE : ∀ i k, GOrd.Edge g i k → k < N) {i j : Nat} (h : Path g i j) : PB g N i j := by
  induction h with
  | one h => exact .one h
  | more h _ ih => exact .more h (hE _ _ h) ih
theorem PB.zero {g : Gd} {i j : Nat} (h : PB g 0 i j) : GOrd.Edge g i j := by
  cases h with
  | one h => exact h
  | more _ hk _ => exact absurd hk (Nat.not_lt_zero _)
theorem Path.ends {g : Gd} {N : Nat} (hE : ∀ i k, GOrd.Edge g i k → k < N) {i j : Nat} (h : Path g i j) : j < N := by
  induction h with
  | one h => exact hE _ _ h
  | more _ _ ih => exact ih

def mget (m : List (List Bool)) (i k : Nat) : Bool := (m.getD i []).getD k false
def mset (m : List (List Bool)) (i k : Nat) : List (List Bool) := m.set i ((m.getD i []).set k true)
structure Sq (N : Nat) (m : List (List Bool)) : Prop where
  len : m.length = N
  row : ∀ l ∈ m, l.length = N
theorem mset_rows {N : Nat} {m : List (List Bool)} (h : ∀ l ∈ m, l.length = N) {i k : Nat} (hi : i < m.length) : ∀ l ∈ mset m i k, l.length = N := by
  intro l hl
  unfold mset at hl
  rcases List.mem_or_eq_of_mem_set hl with h1 | rfl
  · exact h l h1
  · rw [List.length_set, List.getD_eq_getElem?_getD, List.getElem?_eq_getElem hi]
    exact h _ (List.getElem_mem _)
theorem mset_len (m : List (List Bool)) (i k : Nat) : (mset m i k).length = m.length := List.length_set
theorem mget_mset {N : Nat} {m : List (List Bool)} (h : ∀ l ∈ m, l.length = N) {i k : Nat} (hi : i < m.length) (hk : k < N) (a b : Nat) : mget (mset m i k) a b = if a = i ∧ b = k then true else mget m a b := by
  unfold mget mset
  have hl : (m.getD i []).length = N := by
    rw [List.getD_eq_getElem?_getD, List.getElem?_eq_getElem hi]
    exact h _ (List.getElem_mem _)
  by_cases ha : a = i
  · subst ha
    rw [show (m.set a ((m.getD a []).set k true)).getD a [] = (m.getD a []).set k true from by rw [List.getD_eq_getElem?_getD, List.getElem?_set_self hi]; rfl]
    by_cases hb : b = k
    · subst hb
      rw [if_pos ⟨rfl, rfl⟩, List.getD_eq_getElem?_getD, List.getElem?_set_self (by omega)]
      rfl
    · rw [if_neg (fun e => hb e.2), List.getD_eq_getElem?_getD, List.getElem?_set_ne (fun e => hb e.symm), ← List.getD_eq_getElem?_getD]
  · rw [if_neg (fun e => ha e.1), List.getD_eq_getElem?_getD (l := m.set i _), List.getElem?_set_ne (fun e => ha e.symm), ← List.getD_eq_getElem?_getD]
theorem Sq.mset {N : Nat} {m : List (List Bool)} (h : Sq N m) {i k : Nat} (hi : i < N) : Sq N (mset m i k) :=
  ⟨by rw [mset_len, h.len], mset_rows h.row (by rw [h.len]; exact hi)⟩

/-- The table as it is filled first: rows ahead of k are of what they ask for, and of k's what is ahead of q. -/
structure ES (g : Gd) (N k : Nat) (q : Option Nat) (m : List (List Bool)) : Prop where
  len : m.length = k + (if q.isSome then 1 else 0)
  row : ∀ l ∈ m, l.length = N
  old : ∀ a b, a < k → (mget m a b = true ↔ GOrd.Edge g a b)
  new : ∀ q', q = some q' → ∀ b, (mget m k b = true ↔ b ∈ (asks g k).take q')
theorem mget_none {m : List (List Bool)} {i : Nat} (h : m.length ≤ i) (k : Nat) : mget m i k = false := by
  unfold mget
  rw [List.getD_eq_getElem?_getD (l := m), List.getElem?_eq_none h]
  simp
theorem mget_append {m : List (List Bool)} {l : List Bool} (a b : Nat) : mget (m ++ [l]) a b = if a < m.length then mget m a b else if a = m.length then l.getD b false else false := by
  unfold mget
  by_cases h : a < m.length
  · rw [if_pos h, List.getD_eq_getElem?_getD (l := m ++ [l]), List.getElem?_append_left h, ← List.getD_eq_getElem?_getD]
  · rw [if_neg h, List.getD_eq_getElem?_getD (l := m ++ [l]), List.getElem?_append_right (by omega)]
    by_cases h2 : a = m.length
    · subst h2
      rw [if_pos rfl, Nat.sub_self]
      rfl
    · rw [if_neg h2, List.getElem?_eq_none (by simp; omega)]
      simp
theorem ES.zero (g : Gd) (N : Nat) : ES g N 0 none [] := ⟨rfl, fun l hl => by simp at hl, fun a b h => absurd h (Nat.not_lt_zero _), fun q h => by cases h⟩
theorem rep_false (N b : Nat) : (List.replicate N false).getD b false = false := by
  rw [List.getD_eq_getElem?_getD, List.getElem?_replicate]
  split <;> rfl
theorem ES.push {g : Gd} {N k : Nat} {m : List (List Bool)} (h : ES g N k none m) : ES g N k (some 0) (m ++ [List.replicate N false]) := by
  have hl : m.length = k := h.len
  refine ⟨by rw [List.length_append, hl]; rfl, fun l hl => ?_, fun a b ha => ?_, fun q hq b => ?_⟩
  · rw [List.mem_append, List.mem_singleton] at hl
    rcases hl with hl | rfl
    · exact h.row l hl
    · exact List.length_replicate
  · rw [mget_append, if_pos (by omega)]
    exact h.old a b ha
  · injection hq with hq
    subst hq
    rw [mget_append, if_neg (by omega), if_pos hl.symm, rep_false]
    simp
theorem ES.set {g : Gd} {N k q : Nat} {m : List (List Bool)} (h : ES g N k (some q) m) {j : Nat} (hj : (asks g k)[q]? = some j) (hN : j < N) : ES g N k (some (q + 1)) (mset m k j) := by
  have hl : m.length = k + 1 := h.len
  have hg := mget_mset h.row (i := k) (k := j) (by omega) hN
  refine ⟨by rw [mset_len]; exact hl, mset_rows h.row (by omega), fun a b ha => ?_, fun q' hq b => ?_⟩
  · rw [hg, if_neg (fun e => by omega)]
    exact h.old a b ha
  · injection hq with hq
    subst hq
    rw [hg, GPiece.take_next hj, List.mem_append, List.mem_singleton, ← h.new q rfl b]
    by_cases e : b = j
    · rw [if_pos ⟨rfl, e⟩]; simp [e]
    · rw [if_neg (fun e2 => e e2.2)]; simp [e]
theorem ES.done {g : Gd} {N k q : Nat} {m : List (List Bool)} (h : ES g N k (some q) m) (hq : (asks g k).length ≤ q) : ES g N (k + 1) none m := by
  refine ⟨h.len, h.row, fun a b ha => ?_, fun q h => by cases h⟩
  by_cases e : a = k
  · subst e
    rw [h.new q rfl b, List.take_of_length_le hq]
    exact Iff.rfl
  · exact h.old a b (by omega)

/-- Where the filling stands: stage m, row i, place k. -/
structure WS (g : Gd) (N m i k : Nat) (M : List (List Bool)) : Prop where
  sq : Sq N M
  sound : ∀ a b, mget M a b = true → Path g a b
  old : ∀ a b, a < N → PB g m a b → mget M a b = true
  new : ∀ a b, a < N → (a < i ∨ (a = i ∧ b < k)) → PB g (m + 1) a b → mget M a b = true
theorem ES.ws {g : Gd} {N : Nat} {m : List (List Bool)} (h : ES g N N none m) : WS g N 0 0 0 m := by
  have hl : m.length = N := h.len
  refine ⟨⟨hl, h.row⟩, fun a b hab => ?_, fun a b ha hp => (h.old a b ha).2 hp.zero, fun a b ha hlt => by omega⟩
  rcases Nat.lt_or_ge a N with ha | ha
  · exact .one ((h.old a b ha).1 hab)
  · rw [mget_none (by omega)] at hab
    cases hab
theorem WS.step {g : Gd} {N m i k : Nat} {M : List (List Bool)} (h : WS g N m i k M) (hi : i < N) (hk : k < N) (hm : m < N) : WS g N m i (k + 1) (if (mget M i m && mget M m k) = true then mset M i k else M) := by
  have hg := mget_mset h.sq.row (i := i) (k := k) (by rw [h.sq.len]; exact hi) hk
  by_cases hb : (mget M i m && mget M m k) = true
  · rw [if_pos hb]
    obtain ⟨h1, h2⟩ := Bool.and_eq_true_iff.1 hb
    refine ⟨h.sq.mset hi, fun a b hab => ?_, fun a b ha hp => ?_, fun a b ha hlt hp => ?_⟩
    · rw [hg] at hab
      by_cases e : a = i ∧ b = k
      · obtain ⟨rfl, rfl⟩ := e
        exact (h.sound _ _ h1).trans (h.sound _ _ h2)
      · rw [if_neg e] at hab
        exact h.sound a b hab
    · rw [hg]
      split
      · rfl
      · exact h.old a b ha hp
    · rw [hg]
      by_cases e : a = i ∧ b = k
      · rw [if_pos e]
      · rw [if_neg e]
        exact h.new a b ha (by omega) hp
  · rw [if_neg hb]
    refine ⟨h.sq, h.sound, h.old, fun a b ha hlt hp => ?_⟩
    by_cases e : a = i ∧ b = k
    · obtain ⟨rfl, rfl⟩ := e
      rcases hp.split with h1 | ⟨h1, h2⟩
      · exact h.old _ _ ha h1
      · exact absurd (Bool.and_eq_true_iff.2 ⟨h.old _ _ ha h1, h.old _ _ hm h2⟩) hb
    · exact h.new a b ha (by omega) hp
theorem WS.row {g : Gd} {N m i : Nat} {M : List (List Bool)} (hE : ∀ i k, GOrd.Edge g i k → k < N) (h : WS g N m i N M) : WS g N m (i + 1) 0 M :=
  ⟨h.sq, h.sound, h.old, fun a b ha hlt hp => h.new a b ha (by have := Path.ends hE hp.path; omega) hp⟩
theorem WS.stage {g : Gd} {N m : Nat} {M : List (List Bool)} (h : WS g N m N 0 M) : WS g N (m + 1) 0 0 M :=
  ⟨h.sq, h.sound, fun a b ha hp => h.new a b ha (.inl ha) hp, fun a b ha hlt => by omega⟩

/-- Does anything listen to itself? -/
theorem WS.loop {g : Gd} {N : Nat} {M : List (List Bool)} (hE : ∀ i k, GOrd.Edge g i k → i < N ∧ k < N) (h : WS g N N 0 0 M) : (∃ i, i < N ∧ mget M i i = true) ↔ ¬ Acy g := by
  constructor
  · rintro ⟨i, _, hi⟩ ha
    exact ha i (h.sound i i hi)
  · intro ha
    refine Classical.byContradiction fun hn => ha fun i hp => hn ⟨i, Path.ends (fun i k e => (hE i k e).2) hp, ?_⟩
    exact h.old i i (Path.ends (fun i k e => (hE i k e).2) hp) (PB.full (fun i k e => (hE i k e).2) hp)
end Go.Proofs.Ytdliilmnfbgplaa.GRLoopP
