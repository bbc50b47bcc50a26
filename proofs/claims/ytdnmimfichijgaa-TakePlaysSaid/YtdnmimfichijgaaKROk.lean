/- The reference's takes: edits that may be gone through; plain. -/
import Derived.Test.YtdnmimfichijgaaKRef
namespace Go.Proofs.Ytdnmimfichijgaa.KROk
open Go Go.Proofs.Ytdnmimfichijgaa.KMod Go.Proofs.Ytdnmimfichijgaa.KTk Go.Proofs.Ytdnmimfichijgaa.KJ Go.Proofs.Ytdnmimfichijgaa.KOrd Go.Proofs.Ytdnmimfichijgaa.KOrdP Go.Proofs.Ytdnmimfichijgaa.KRef
set_option linter.unusedVariables false
set_option linter.unusedSimpArgs false

/-- What was cut was there. -/
def okU (v : List Ed) : Prop := ∀ k e, v[k]? = some e → e.do_ ≠ 1 → 0 ≤ e.n ∧ e.n < ((linR (v.take k)).length : Int)
/-- There was something to undo, to do again. -/
def okD (l : List Ed) : Prop := ∀ k e, l[k]? = some e → (e.do_ = 3 → (stdR (l.take k)).1 ≠ []) ∧ (e.do_ = 4 → (stdR (l.take k)).2 ≠ [])
structure Okay (l : List Ed) : Prop where
  d : okD l
  s : okU ((stdR l).1 ++ (stdR l).2.reverse)

theorem okay_nil : Okay [] := ⟨fun k e h => by simp at h, fun k e h => by simp [stdR] at h⟩

theorem okU_left {v r : List Ed} (h : okU (v ++ r)) : okU v := fun k e hk h1 => by
  have hl := (List.getElem?_eq_some_iff.1 hk).1
  have := h k e (by rw [List.getElem?_append_left hl]; exact hk) h1
  rw [List.take_append_of_le_length (by omega)] at this
  exact this
theorem Okay.up {l : List Ed} (h : Okay l) : okU (stdR l).1 := okU_left h.s
theorem okU_snoc {v : List Ed} (h : okU v) {e : Ed} (he : e.do_ ≠ 1 → 0 ≤ e.n ∧ e.n < ((linR v).length : Int)) : okU (v ++ [e]) := fun k x hk h1 => by
  by_cases hl : k < v.length
  · rw [List.getElem?_append_left hl] at hk
    rw [List.take_append_of_le_length (by omega)]
    exact h k x hk h1
  · have hle := (List.getElem?_eq_some_iff.1 hk).1
    simp at hle
    have hke : k = v.length := by omega
    subst hke
    rw [List.getElem?_append_right (by omega), Nat.sub_self] at hk
    simp at hk
    subst hk
    rw [List.take_left]
    exact he h1

theorem last_split (up : List Ed) (h : up ≠ []) : up = up.dropLast ++ [up.getLastD ed0] := by
  rw [List.getLastD_eq_getLast?, List.getLast?_eq_some_getLast h]
  exact (List.dropLast_concat_getLast h).symm

theorem okay_snoc {l : List Ed} (h : Okay l) {e : Ed} (hm : mayR l e = 0) : Okay (l ++ [e]) := by
  have hs := std_snoc l e
  have hw : wrongT [e.t] ≠ 0 ∨ wrongT [e.t] = 0 := by omega
  unfold mayR at hm
  refine ⟨fun k x hk => ?_, ?_⟩
  · by_cases hl : k < l.length
    · rw [List.getElem?_append_left hl] at hk
      rw [List.take_append_of_le_length (by omega)]
      exact h.d k x hk
    · have hle := (List.getElem?_eq_some_iff.1 hk).1
      simp at hle
      have hke : k = l.length := by omega
      subst hke
      rw [List.getElem?_append_right (by omega), Nat.sub_self] at hk
      simp at hk
      subst hk
      rw [List.take_left]
      refine ⟨fun h3 h0 => ?_, fun h4 h0 => ?_⟩
      · rw [if_neg (by omega), if_neg (by omega), if_pos h3, if_pos (by rw [h0]; rfl)] at hm
        cases hm
      · rw [if_neg (by omega), if_neg (by omega), if_neg (by omega), if_pos h4, if_pos (by rw [h0]; rfl)] at hm
        cases hm
  · rw [hs]
    have ho := h.s
    have hup := h.up
    unfold tonesR at hm
    obtain ⟨⟨up, dn⟩, hS⟩ : ∃ S, stdR l = S := ⟨_, rfl⟩
    rw [hS] at hm ho hup ⊢
    simp only at hm ho hup
    by_cases h3 : e.do_ = 3
    · rw [if_neg (by omega), if_neg (by omega), if_pos h3] at hm
      have hne : up ≠ [] := by
        intro h0
        rw [if_pos (by rw [h0]; rfl)] at hm
        cases hm
      have hst : std1 (up, dn) e = (up.dropLast, dn ++ [up.getLastD ed0]) := by unfold std1; rw [if_pos h3]
      rw [hst]
      simp only [List.reverse_append, List.reverse_singleton]
      rw [← List.append_assoc, ← last_split up hne]
      exact ho
    by_cases h4 : e.do_ = 4
    · rw [if_neg (by omega), if_neg (by omega), if_neg h3, if_pos h4] at hm
      have hne : dn ≠ [] := by
        intro h0
        rw [if_pos (by rw [h0]; rfl)] at hm
        cases hm
      have hst : std1 (up, dn) e = (up ++ [dn.getLastD ed0], dn.dropLast) := by unfold std1; rw [if_neg h3, if_pos h4]
      rw [hst]
      simp only
      have : dn.reverse = [dn.getLastD ed0] ++ dn.dropLast.reverse := by
        conv => lhs; rw [last_split dn hne, List.reverse_append, List.reverse_singleton]
      rw [List.append_assoc, ← this]
      exact ho
    have hst : std1 (up, dn) e = (up ++ [e], []) := by unfold std1; rw [if_neg h3, if_neg h4]
    rw [hst]
    simp only [List.reverse_nil, List.append_nil]
    refine okU_snoc hup fun h1 => ?_
    rw [if_neg h1] at hm
    by_cases h2 : e.do_ = 2
    · rw [if_pos h2] at hm
      by_cases hr : e.n < 0 ∨ ((linR up).length : Int) ≤ e.n
      · rw [if_pos hr] at hm
        cases hm
      · omega
    · rw [if_neg h2, if_neg h3, if_neg h4] at hm
      cases hm

theorem std_len (l : List Ed) : (stdR l).1.length + (stdR l).2.length ≤ l.length + ((stdR l).1.length + (stdR l).2.length - l.length) := by omega

theorem lin1_len (l : List Tone) (e : Ed) : (lin1 l e).length ≤ l.length + 1 := by
  unfold lin1
  split
  · rw [insR_len]; exact Nat.le_refl _
  · have := List.length_eraseIdx_le l e.n.toNat
    omega
theorem lin_len (v : List Ed) : ∀ (k : Nat), (linR (v.take k)).length ≤ k
  | 0 => by simp [linR]
  | k + 1 => by
    have ih := lin_len v k
    rw [List.take_add_one]
    cases hk : v[k]? with
    | none => simp; omega
    | some e =>
      simp only [Option.toList]
      rw [lin_snoc]
      have := lin1_len (linR (v.take k)) e
      omega
theorem lin_len' (v : List Ed) : (linR v).length ≤ v.length := by
  have := lin_len v v.length
  rw [List.take_length] at this
  exact this

/-- How many stand, and were undone: no more than there are, where there was something to undo and to do again. -/
theorem std_take {l : List Ed} (h : okD l) : ∀ k, k ≤ l.length → (stdR (l.take k)).1.length + (stdR (l.take k)).2.length ≤ k
  | 0, _ => by simp [stdR]
  | k + 1, hk => by
    have ih := std_take h k (by omega)
    obtain ⟨e, he⟩ : ∃ e, l[k]? = some e := ⟨l[k], List.getElem?_eq_getElem _⟩
    obtain ⟨h3, h4⟩ := h k e he
    rw [List.take_add_one, he]
    simp only [Option.toList]
    rw [std_snoc]
    obtain ⟨⟨up, dn⟩, hS⟩ : ∃ S, stdR (l.take k) = S := ⟨_, rfl⟩
    rw [hS] at ih h3 h4 ⊢
    simp only at ih h3 h4
    unfold std1
    split
    · rename_i hd
      have := List.length_pos_iff.2 (h3 hd)
      simp
      omega
    · split
      · rename_i _ hd
        have := List.length_pos_iff.2 (h4 hd)
        simp
        omega
      · simp
        omega

theorem lies_okay (ws : List Int) : ∀ (f : Nat) (l : List Ed), Okay l → Okay (liesFrom ws f l)
  | 0, l, h => h
  | f + 1, l, h => by
    unfold liesFrom
    split
    · rename_i hc
      exact lies_okay ws f _ (okay_snoc h hc.2.2.2.2)
    · exact h
theorem lies_len (ws : List Int) : ∀ (f : Nat) (l : List Ed), l.length ≤ 1024 → (liesFrom ws f l).length ≤ 1024
  | 0, l, h => h
  | f + 1, l, h => by
    unfold liesFrom
    split
    · rename_i hc
      exact lies_len ws f _ (by rw [List.length_append, List.length_singleton]; omega)
    · exact h
end Go.Proofs.Ytdnmimfichijgaa.KROk
