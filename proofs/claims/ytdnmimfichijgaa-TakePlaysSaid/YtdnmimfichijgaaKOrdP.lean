/- TakeOrders, plainly. -/
import Derived.Test.YtdnmimfichijgaaKJ
import Derived.Test.YtdnmimfichijgaaKOrd
namespace Go.Proofs.Ytdnmimfichijgaa.KOrdP
open Go Go.Proofs.Ytdnmimfichijgaa.KMod Go.Proofs.Ytdnmimfichijgaa.KTk Go.Proofs.Ytdnmimfichijgaa.KJ Go.Proofs.Ytdnmimfichijgaa.KOrd
set_option linter.unusedVariables false
set_option linter.unusedSimpArgs false

theorem run_append (ps qs : List Stp) : ∀ (t : Tk) (d : Dk), ∃ t2 d2, (runK t d (ps ++ qs)).1 = (runK t d ps).1 ++ (runK t2 d2 qs).1 ∧ (runK t d (ps ++ qs)).2 = (runK t2 d2 qs).2 := by
  induction ps with
  | nil => intro t d; exact ⟨t, d, rfl, rfl⟩
  | cons p r ih =>
    intro t d
    obtain ⟨t2, d2, h1, h2⟩ := ih (stepK t d p).1 (stepK t d p).2.1
    refine ⟨t2, d2, ?_, ?_⟩
    · show (stepK t d p).2.2 :: (runK (stepK t d p).1 (stepK t d p).2.1 (r ++ qs)).1 = _
      rw [h1]
      rfl
    · exact h2

/-- The state behind steps. -/
def after (t : Tk) (d : Dk) : List Stp → Tk × Dk
  | [] => (t, d)
  | p :: r => after (stepK t d p).1 (stepK t d p).2.1 r
theorem run_split (ps qs : List Stp) : ∀ (t : Tk) (d : Dk), (runK t d (ps ++ qs)).1 = (runK t d ps).1 ++ (runK (after t d ps).1 (after t d ps).2 qs).1 := by
  induction ps with
  | nil => intro t d; rfl
  | cons p r ih =>
    intro t d
    show (stepK t d p).2.2 :: (runK (stepK t d p).1 (stepK t d p).2.1 (r ++ qs)).1 = _
    rw [ih]
    rfl

/-- A put, as a step. -/
def putS (t : Tone) : Stp := ⟨false, ⟨1, 0, t⟩, 0, 0, 0⟩
/-- The tones that may be put. -/
def okL (ts : List Tone) : List Tone := ts.filter (fun t => decide (wrongT [t] = 0))

theorem ins_same {v : List Tone} {t : Tone} (h : Sorted v) : insT v t = insR v t := by
  unfold insT insR
  rw [insK_eq v t h]

/-- Behind puts with power for ever, and room: the line is that of Order. -/
structure Ordn (t : Tk) (d : Dk) (ts : List Tone) (k : Nat) : Prop where
  fits : Fits t d.words
  left : d.left < 0
  room : d.words.length = 1000
  br : t.broken = false
  now : t.s.now = ordR (okL ts)
  few : t.edits ≤ k
  len : t.s.now.length ≤ k

theorem okL_snoc (ts : List Tone) (t : Tone) : okL (ts ++ [t]) = if wrongT [t] = 0 then okL ts ++ [t] else okL ts := by
  unfold okL
  rw [List.filter_append]
  by_cases h : wrongT [t] = 0
  · simp [h]
  · simp [h]
theorem ordR_snoc (ts : List Tone) (t : Tone) : ordR (ts ++ [t]) = insR (ordR ts) t := by
  unfold ordR
  simp

theorem now_push (vs : List (List Tone)) (l : List Tone) (a : Nat) (h : a < vs.length) : (Ver.mk (vs.take (a + 1) ++ [l]) (a + 1)).now = l := by
  unfold Ver.now
  rw [List.getD_eq_getElem?_getD, List.getElem?_append_right (by simp; omega)]
  simp
  rw [show a + 1 - min (a + 1) vs.length = 0 from by omega]
  rfl

theorem ordn_step {t : Tk} {d : Dk} {ts : List Tone} {k : Nat} (h : Ordn t d ts k) (hk : k < 100) (x : Tone) : Ordn (stepK t d (putS x)).1 (stepK t d (putS x)).2.1 (ts ++ [x]) (k + 1) ∧ (stepK t d (putS x)).2.2.ts = (stepK t d (putS x)).1.s.now := by
  have hf := fits_step h.fits (p := putS x) rfl
  have hs : stepK t d (putS x) = ((doT t d ⟨1, 0, x⟩).1, (doT t d ⟨1, 0, x⟩).2.1, tonesT (doT t d ⟨1, 0, x⟩).1 ⟨(doT t d ⟨1, 0, x⟩).2.2, 0, []⟩) := by
    have e := step0 (t := t) (d := d) (p := putS x) rfl (t1 := t) (l := d.left) (R := doT t d ⟨1, 0, x⟩) rfl rfl rfl
    exact e
  rw [hs] at hf ⊢
  simp only at hf ⊢
  have hpl : plainE ⟨1, 0, x⟩ = ⟨1, 0, x⟩ := rfl
  have hgood := (do_good h.fits.good d ⟨1, 0, x⟩)
  obtain ⟨R, hR⟩ : ∃ R, doT t d ⟨1, 0, x⟩ = R := ⟨_, rfl⟩
  rw [hR] at hf hgood ⊢
  unfold doT at hR
  rw [h.br] at hR
  simp only [Bool.false_eq_true, if_false, hpl] at hR
  have hlen := h.len
  have hfew := h.few
  have hroom := h.room
  have herr : errE t.s ⟨1, 0, x⟩ = wrongT [x] := by
    unfold errE
    simp only [if_true]
    split
    · rfl
    · rename_i hw
      rw [if_neg (by omega)]
      omega
  rw [herr] at hR
  by_cases hw : wrongT [x] = 0
  · rw [if_neg (by simp [hw]), if_neg (by omega)] at hR
    obtain ⟨_, _, _, h4⟩ := rec_spec d (t.edits * 8) ⟨1, 0, x⟩ (by omega)
    obtain ⟨g1, g2⟩ := h4 h.left
    cases hp : putRec d (t.edits * 8) ⟨1, 0, x⟩ with
    | mk d' ok =>
      rw [hp] at hR g1 g2
      simp only at hR g1 g2
      subst g1
      simp only [if_true] at hR
      subst hR
      have hnx : nextE t.s ⟨1, 0, x⟩ = ⟨t.s.vs.take (t.s.at_ + 1) ++ [insT t.s.now x], t.s.at_ + 1⟩ := by unfold nextE; simp
      have hnow : (nextE t.s ⟨1, 0, x⟩).now = insR (ordR (okL ts)) x := by
        rw [hnx, now_push _ _ _ h.fits.good.s.at_, ins_same (h.fits.good.s.srt _ h.fits.good.s.now_mem), h.now]
      refine ⟨⟨hf, by simp only; rw [g2]; exact h.left, by have := hgood.2; simp only at this ⊢; omega, rfl, ?_, by simp only; omega, ?_⟩, by unfold tonesT; simp⟩
      · simp only
        rw [hnow, okL_snoc, if_pos hw, ordR_snoc]
      · simp only
        rw [hnow, insR_len, ← h.now]
        omega
  · rw [if_pos hw] at hR
    subst hR
    refine ⟨⟨hf, h.left, hroom, h.br, by rw [okL_snoc, if_neg hw]; exact h.now, by simp only; omega, by simp only; omega⟩, by unfold tonesT; simp [h.br]⟩

theorem ordn_all (xs : List Tone) : ∀ (t : Tk) (d : Dk) (ts : List Tone) (k : Nat), Ordn t d ts k → k + xs.length ≤ 100 → ∀ y ∈ (runK t d (xs.map putS)).1.getLast?, y.ts = ordR (okL (ts ++ xs)) := by
  induction xs with
  | nil => intro t d ts k h hk y hy; simp [runK] at hy
  | cons x xs ih =>
    intro t d ts k h hk y hy
    simp only [List.length_cons] at hk
    obtain ⟨h1, h2⟩ := ordn_step h (by omega) x
    have e : (runK t d ((x :: xs).map putS)).1 = (stepK t d (putS x)).2.2 :: (runK (stepK t d (putS x)).1 (stepK t d (putS x)).2.1 (xs.map putS)).1 := rfl
    rw [e] at hy
    cases xs with
    | nil =>
      simp [runK] at hy
      subst hy
      rw [h2, h1.now]
    | cons x2 xs2 =>
      have hy2 : y ∈ (runK (stepK t d (putS x)).1 (stepK t d (putS x)).2.1 ((x2 :: xs2).map putS)).1.getLast? := by
        have hl := run_len ((x2 :: xs2).map putS) (stepK t d (putS x)).1 (stepK t d (putS x)).2.1
        cases hr : (runK (stepK t d (putS x)).1 (stepK t d (putS x)).2.1 ((x2 :: xs2).map putS)).1 with
        | nil => rw [hr] at hl; simp at hl
        | cons a b =>
          rw [hr, List.getLast?_cons_cons] at hy
          exact hy
      have := ih (stepK t d (putS x)).1 (stepK t d (putS x)).2.1 (ts ++ [x]) (k + 1) h1 (by omega) y hy2
      rw [this, List.append_assoc]
      rfl

/-- The law, plainly. -/
theorem orders (xs : List Tone) (h : xs.length ≤ 100) : ∀ y ∈ (runK (openT (List.replicate 1000 0)) ⟨List.replicate 1000 0, -1⟩ (xs.map putS)).1.getLast?, y.ts = ordR (okL xs) := by
  have e := fits_open (fits_zero 1000)
  have hO : Ordn (openT (List.replicate 1000 0)) ⟨List.replicate 1000 0, -1⟩ [] 0 := by
    refine ⟨fits_openT (fits_zero 1000), by decide, List.length_replicate, ?_, ?_, ?_, ?_⟩
    · rw [e]
    · rw [e]; rfl
    · rw [e]; exact Nat.le_refl _
    · rw [e]; exact Nat.le_refl _
  have := ordn_all xs _ _ [] 0 hO (by omega)
  rw [List.nil_append] at this
  exact this
end Go.Proofs.Ytdnmimfichijgaa.KOrdP
