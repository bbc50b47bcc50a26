/- TakeUndoes, plainly. -/
import Derived.Test.YtdnmimfichijgaaKOrdP
namespace Go.Proofs.Ytdnmimfichijgaa.KUndP
open Go Go.Proofs.Ytdnmimfichijgaa.KMod Go.Proofs.Ytdnmimfichijgaa.KTk Go.Proofs.Ytdnmimfichijgaa.KJ Go.Proofs.Ytdnmimfichijgaa.KOrd Go.Proofs.Ytdnmimfichijgaa.KOrdP
set_option linter.unusedVariables false
set_option linter.unusedSimpArgs false

def openS : Stp := ⟨true, ⟨0, 0, tone0⟩, -1, 0, 0⟩
def editS (e : Ed) : Stp := ⟨false, e, 0, 0, 0⟩
def undoE : Ed := ⟨3, 0, tone0⟩
def redoE : Ed := ⟨4, 0, tone0⟩
def tailS (e : Ed) : List Stp := [openS, editS e, editS undoE, editS redoE]

/-- An edit that nothing stands in the way of, with room and power. -/
theorem do_ok {t : Tk} {d : Dk} (h : Fits t d.words) (hl : d.words.length = 1760) (he : t.edits ≤ 210) (hb : t.broken = false) (hp : d.left < 0) {e : Ed} (h0 : errE t.s (plainE e) = 0) :
    ∃ d', doT t d e = (⟨nextE t.s (plainE e), t.edits + 1, false⟩, d', 0) ∧ d'.left < 0 ∧ d'.words.length = 1760 ∧ Fits ⟨nextE t.s (plainE e), t.edits + 1, false⟩ d'.words := by
  have hf := fits_do h e
  have hlen := (do_good h.good d e).2
  obtain ⟨_, _, _, h4⟩ := rec_spec d (t.edits * 8) (plainE e) (by omega)
  obtain ⟨g1, g2⟩ := h4 hp
  have hd : doT t d e = (⟨nextE t.s (plainE e), t.edits + 1, false⟩, (putRec d (t.edits * 8) (plainE e)).1, 0) := by
    unfold doT
    rw [hb]
    simp only [Bool.false_eq_true, if_false]
    rw [if_neg (by omega), if_neg (by omega)]
    cases hpp : putRec d (t.edits * 8) (plainE e) with
    | mk d' ok =>
      rw [hpp] at g1
      simp only at g1
      subst g1
      rfl
  rw [hd] at hf hlen
  refine ⟨_, hd, by rw [g2]; exact hp, by rw [← hl]; exact hlen, hf⟩

theorem step_edit (t : Tk) (d : Dk) (e : Ed) (h : e.do_ ≠ 0) : stepK t d (editS e) = ((doT t d e).1, (doT t d e).2.1, tonesT (doT t d e).1 ⟨(doT t d e).2.2, 0, []⟩) :=
  step0 (t := t) (d := d) (p := editS e) rfl (t1 := t) (l := d.left) (R := doT t d e) rfl rfl (if_pos h)
theorem step_open (t : Tk) (d : Dk) : stepK t d openS = (openT d.words, ⟨d.words, -2⟩, tonesT (openT d.words) ⟨0, 0, []⟩) :=
  step0 (t := t) (d := d) (p := openS) rfl (t1 := openT d.words) (l := -2) (R := (openT d.words, ⟨d.words, -2⟩, 0)) rfl (by rw [if_pos (by decide)]; exact IntWalk.i64_in _ (by decide)) rfl

theorem take_get {α : Type} (vs : List α) (l x : α) (a : Nat) (h : vs[a]? = some x) : (vs.take (a + 1) ++ [l])[a]? = some x := by
  have ha := (List.getElem?_eq_some_iff.1 h).1
  rw [List.getElem?_append_left (by simp; omega), List.getElem?_take, if_pos (by omega)]
  exact h

theorem run_cons' (t : Tk) (d : Dk) (p : Stp) (r : List Stp) : (runK t d (p :: r)).1 = (stepK t d p).2.2 :: (runK (stepK t d p).1 (stepK t d p).2.1 r).1 := rfl
theorem run4 (t : Tk) (d : Dk) (a b c f : Stp) : (runK t d [a, b, c, f]).1 = [(stepK t d a).2.2, (stepK (stepK t d a).1 (stepK t d a).2.1 b).2.2, (stepK (stepK (stepK t d a).1 (stepK t d a).2.1 b).1 (stepK (stepK t d a).1 (stepK t d a).2.1 b).2.1 c).2.2,
    (stepK (stepK (stepK (stepK t d a).1 (stepK t d a).2.1 b).1 (stepK (stepK t d a).1 (stepK t d a).2.1 b).2.1 c).1 (stepK (stepK (stepK t d a).1 (stepK t d a).2.1 b).1 (stepK (stepK t d a).1 (stepK t d a).2.1 b).2.1 c).2.1 f).2.2] := by
  rw [run_cons', run_cons', run_cons', run_cons']
  rfl

theorem und_core {t : Tk} {d : Dk} (h : Fits t d.words) (hl : d.words.length = 1760) (he : t.edits ≤ 200) (e : Ed) (hd : e.do_ = 1 ∨ e.do_ = 2) :
    ∃ x0 x1 x2 x3, (runK t d (tailS e)).1 = [x0, x1, x2, x3] ∧ (x1.err ≠ 0 → x1.ts = x0.ts) ∧ (x1.err = 0 → x2.err = 0 ∧ x3.err = 0 ∧ x2.ts = x0.ts ∧ x3.ts = x1.ts) := by
  have ho := fits_open h
  have hfo := fits_openT h
  have e0 : e.do_ ≠ 0 := by omega
  refine ⟨_, _, _, _, run4 t d openS (editS e) (editS undoE) (editS redoE), ?_, ?_⟩
  all_goals
    rw [step_open]
    simp only
    rw [step_edit _ _ e e0]
    rw [ho] at hfo ⊢
  · intro hx
    simp only at hx ⊢
    have hc := do_cases ⟨t.s, t.edits, false⟩ ⟨d.words, -2⟩ e
    rcases hc with ⟨h1, _⟩ | ⟨_, h1, h2, h3⟩ | ⟨_, h1, h2⟩ | ⟨_, h1, _⟩
    · cases h1
    · rw [h3]
      unfold tonesT
      simp
    · by_cases hE : errE t.s (plainE e) = 0
      · obtain ⟨d', hd', _⟩ := do_ok (t := ⟨t.s, t.edits, false⟩) (d := ⟨d.words, -2⟩) hfo hl (by simp only; omega) rfl (show (-2 : Int) < 0 by decide) hE
        rw [hd'] at h1
        simp at h1
      · exfalso
        have hs := err_small t.s (plainE e)
        unfold doT at h1
        simp only [Bool.false_eq_true, if_false] at h1
        rw [if_pos hE] at h1
        simp only at h1
        omega
    · exfalso
      apply hx
      unfold tonesT
      split
      · exact h1
      · exact h1
  · intro hx
    have hE : errE t.s (plainE e) = 0 := by
      by_cases hE : errE t.s (plainE e) = 0
      · exact hE
      · exfalso
        unfold doT at hx
        simp only [Bool.false_eq_true, if_false] at hx
        rw [if_pos hE] at hx
        unfold tonesT at hx
        simp at hx
        exact hE hx
    obtain ⟨d1, hd1, hp1, hl1, hf1⟩ := do_ok (t := ⟨t.s, t.edits, false⟩) (d := ⟨d.words, -2⟩) hfo hl (by simp only; omega) rfl (show (-2 : Int) < 0 by decide) hE
    rw [hd1]
    simp only
    -- the versions behind the edit
    have hpd : (plainE e).do_ = e.do_ := plain_do e
    obtain ⟨l, hnx⟩ : ∃ l, nextE t.s (plainE e) = ⟨t.s.vs.take (t.s.at_ + 1) ++ [l], t.s.at_ + 1⟩ := by
      unfold nextE
      rw [hpd]
      rcases hd with h1 | h1
      · rw [h1]; exact ⟨_, rfl⟩
      · rw [h1]; exact ⟨_, rfl⟩
    have hat := h.good.s.at_
    rw [hnx] at hf1 ⊢
    have hpu : plainE undoE = undoE := rfl
    have hpr : plainE redoE = redoE := rfl
    have hE2 : errE ⟨t.s.vs.take (t.s.at_ + 1) ++ [l], t.s.at_ + 1⟩ (plainE undoE) = 0 := by
      rw [hpu]
      unfold errE undoE
      simp
    obtain ⟨d2, hd2, hp2, hl2, hf2⟩ := do_ok (t := ⟨⟨t.s.vs.take (t.s.at_ + 1) ++ [l], t.s.at_ + 1⟩, t.edits + 1, false⟩) (d := d1) hf1 hl1 (by simp only; omega) rfl hp1 hE2
    rw [step_edit _ _ undoE (by decide), hd2]
    simp only
    have hnx2 : nextE ⟨t.s.vs.take (t.s.at_ + 1) ++ [l], t.s.at_ + 1⟩ (plainE undoE) = ⟨t.s.vs.take (t.s.at_ + 1) ++ [l], t.s.at_⟩ := by
      rw [hpu]
      rfl
    rw [hnx2] at hf2 ⊢
    have hE3 : errE ⟨t.s.vs.take (t.s.at_ + 1) ++ [l], t.s.at_⟩ (plainE redoE) = 0 := by
      rw [hpr]
      unfold errE redoE
      simp only
      rw [if_neg (by decide), if_neg (by decide), if_neg (by decide), if_pos trivial, if_neg]
      simp
      omega
    obtain ⟨d3, hd3, hp3, hl3, hf3⟩ := do_ok (t := ⟨⟨t.s.vs.take (t.s.at_ + 1) ++ [l], t.s.at_⟩, t.edits + 1 + 1, false⟩) (d := d2) hf2 hl2 (by simp only; omega) rfl hp2 hE3
    rw [step_edit _ _ redoE (by decide), hd3]
    have hnx3 : nextE ⟨t.s.vs.take (t.s.at_ + 1) ++ [l], t.s.at_⟩ (plainE redoE) = ⟨t.s.vs.take (t.s.at_ + 1) ++ [l], t.s.at_ + 1⟩ := by
      rw [hpr]
      rfl
    rw [hnx3]
    refine ⟨rfl, rfl, ?_, rfl⟩
    show (Ver.mk (t.s.vs.take (t.s.at_ + 1) ++ [l]) t.s.at_).now = t.s.now
    have h1 := take_get t.s.vs l _ _ h.good.s.now_at
    unfold Ver.now at h1 ⊢
    simp only at h1 ⊢
    rw [List.getD_eq_getElem?_getD, h1]
    rfl

/-- Behind steps that don't poke. -/
theorem after_fits (ps : List Stp) : ∀ (t : Tk) (d : Dk) (k : Nat), Fits t d.words → (∀ p ∈ ps, p.poke = 0) → t.edits ≤ k → Fits (after t d ps).1 (after t d ps).2.words ∧ (after t d ps).2.words.length = d.words.length ∧ (after t d ps).1.edits ≤ k + ps.length := by
  induction ps with
  | nil => intro t d k h _ he; exact ⟨h, rfl, by simpa [after] using he⟩
  | cons p r ih =>
    intro t d k h hp he
    have hp0 := hp p (.head _)
    have hf := fits_step h hp0
    have hlen : (stepK t d p).2.1.words.length = d.words.length ∧ (stepK t d p).1.edits ≤ k + 1 := by
      obtain ⟨t1, ht1⟩ : ∃ t1, (if p.open_ = true then openT d.words else t) = t1 := ⟨_, rfl⟩
      obtain ⟨l, hl⟩ : ∃ l, (if p.power ≠ 0 then IntKind.i64.wrap (p.power - 1) else d.left) = l := ⟨_, rfl⟩
      have hg1 : GoodT t1 := by
        rw [← ht1]
        split
        · exact openT_good _
        · exact h.good
      have he1 : t1.edits ≤ k := by
        rw [← ht1]
        split
        · rw [fits_open h]; exact he
        · exact he
      rw [step0 hp0 ht1 hl rfl]
      simp only
      by_cases hd : p.e.do_ ≠ 0
      · rw [if_pos hd]
        refine ⟨(do_good hg1 ⟨d.words, l⟩ p.e).2, ?_⟩
        have hc := do_cases t1 ⟨d.words, l⟩ p.e
        unfold doT
        split
        · simp only; omega
        · simp only
          split
          · simp only; omega
          · split
            · simp only; omega
            · cases putRec ⟨d.words, l⟩ (t1.edits * 8) (plainE p.e) with
              | mk d' ok =>
                cases ok
                · show t1.edits ≤ k + 1
                  omega
                · show t1.edits + 1 ≤ k + 1
                  omega
      · rw [if_neg hd]
        exact ⟨rfl, by simp only; omega⟩
    obtain ⟨h1, h2, h3⟩ := ih (stepK t d p).1 (stepK t d p).2.1 (k + 1) hf (fun q hq => hp q (.tail _ hq)) hlen.2
    refine ⟨h1, h2.trans hlen.1, ?_⟩
    show (after (stepK t d p).1 (stepK t d p).2.1 r).1.edits ≤ k + (r.length + 1)
    omega

theorem und_all (W : List Int) (hWl : W.length = 1760) (hz : Fits (openT W) W) (hed : (openT W).edits ≤ 0) (ps : List Stp) (hp : ∀ p ∈ ps, p.poke = 0) (hn : ps.length ≤ 200) (e : Ed) (hd : e.do_ = 1 ∨ e.do_ = 2) :
    ∃ x0 x1 x2 x3, (runK (openT W) ⟨W, -1⟩ (ps ++ tailS e)).1[ps.length]? = some x0 ∧ (runK (openT W) ⟨W, -1⟩ (ps ++ tailS e)).1[ps.length + 1]? = some x1 ∧
      (runK (openT W) ⟨W, -1⟩ (ps ++ tailS e)).1[ps.length + 2]? = some x2 ∧ (runK (openT W) ⟨W, -1⟩ (ps ++ tailS e)).1[ps.length + 3]? = some x3 ∧
      (x1.err ≠ 0 → x1.ts = x0.ts) ∧ (x1.err = 0 → x2.err = 0 ∧ x3.err = 0 ∧ x2.ts = x0.ts ∧ x3.ts = x1.ts) := by
  obtain ⟨d, hdw⟩ : ∃ d : Dk, (⟨W, -1⟩ : Dk) = d := ⟨_, rfl⟩
  have hdww : d.words = W := by rw [← hdw]
  rw [hdw]
  rw [← hdww] at hz hWl hed ⊢
  obtain ⟨t, ht⟩ : ∃ t, openT d.words = t := ⟨_, rfl⟩
  rw [ht] at hz hed ⊢
  obtain ⟨h1, h2, h3⟩ := after_fits ps t d 0 hz hp hed
  obtain ⟨x0, x1, x2, x3, hr, g1, g2⟩ := und_core h1 (h2.trans hWl) (by omega) e hd
  have hs := run_split ps (tailS e) t d
  rw [hr] at hs
  have hl := run_len ps t d
  obtain ⟨A, hA⟩ : ∃ A, (runK t d ps).1 = A := ⟨_, rfl⟩
  obtain ⟨S, hS⟩ : ∃ S, (runK t d (ps ++ tailS e)).1 = S := ⟨_, rfl⟩
  rw [hA, hS] at hs
  rw [hA] at hl
  rw [hS]
  have get : ∀ i, S[ps.length + i]? = [x0, x1, x2, x3][i]? := fun i => by
    rw [hs, List.getElem?_append_right (by omega), hl]
    congr 1
    omega
  exact ⟨x0, x1, x2, x3, get 0, get 1, get 2, get 3, g1, g2⟩
end Go.Proofs.Ytdnmimfichijgaa.KUndP
