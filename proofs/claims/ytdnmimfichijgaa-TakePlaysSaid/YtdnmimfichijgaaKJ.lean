/- What is on a disk and what a take holds: they fit; plain. -/
import Derived.Test.YtdnmimfichijgaaKTk
namespace Go.Proofs.Ytdnmimfichijgaa.KJ
open Go Go.Proofs.Ytdnmimfichijgaa.KMod Go.Proofs.Ytdnmimfichijgaa.KTk
set_option linter.unusedVariables false
set_option linter.unusedSimpArgs false

/-- The first k records are good: they give s. -/
inductive Chain (ws : List Int) : Nat → Ver → Prop
  | zero : Chain ws 0 ver0
  | next {k : Nat} {s : Ver} : Chain ws k s → k * 8 + 8 ≤ ws.length → k < 1024 → goodAt ws s (k * 8) = true → Chain ws (k + 1) (nextE s (edAt ws (k * 8)))

theorem good_congr {ws ws' : List Int} {p : Nat} {s : Ver} (h : ∀ j, p ≤ j → j < p + 8 → ws'.getD j 0 = ws.getD j 0) : goodAt ws' s p = goodAt ws s p ∧ edAt ws' p = edAt ws p := by
  have h0 : edAt ws' p = edAt ws p := by
    unfold edAt
    rw [h (p + 1) (by omega) (by omega), h (p + 2) (by omega) (by omega), h (p + 3) (by omega) (by omega), h (p + 4) (by omega) (by omega), h (p + 5) (by omega) (by omega), h (p + 6) (by omega) (by omega), h (p + 7) (by omega) (by omega)]
  refine ⟨?_, h0⟩
  unfold goodAt
  rw [h0, h p (by omega) (by omega)]

theorem Chain.congr {ws ws' : List Int} {k : Nat} {s : Ver} (h : Chain ws k s) (hl : ws'.length = ws.length) (he : ∀ j, j < k * 8 → ws'.getD j 0 = ws.getD j 0) : Chain ws' k s := by
  induction h with
  | zero => exact .zero
  | next hc h1 h2 h3 ih =>
    rename_i k s
    obtain ⟨e1, e2⟩ := good_congr (ws := ws) (ws' := ws') (p := k * 8) (s := s) (fun j hj1 hj2 => he j (by omega))
    rw [← e2]
    exact .next (ih (fun j hj => he j (by omega))) (by omega) h2 (by rw [e1]; exact h3)

theorem open_chain {ws : List Int} {k : Nat} {s : Ver} (h : Chain ws k s) (hk : k ≤ 1024) : openFrom ws 1024 0 ver0 = openFrom ws (1024 - k) k s := by
  induction h with
  | zero => rfl
  | next hc h1 h2 h3 ih =>
    rename_i k s
    rw [ih (by omega)]
    obtain ⟨f, hf⟩ : ∃ f, 1024 - k = f + 1 := ⟨1024 - (k + 1), by omega⟩
    rw [hf, show 1024 - (k + 1) = f from by omega]
    conv => lhs; unfold openFrom
    rw [if_pos ⟨h1, h2, h3⟩]

/-- Disk and take fit: k records, the next one's mark is nought, and behind it lies nothing. -/
structure Fits (t : Tk) (ws : List Int) : Prop where
  chain : Chain ws t.edits t.s
  big : t.edits ≤ 1024
  mark : ws.getD (t.edits * 8) 0 = 0
  rest : ∀ j, t.edits * 8 + 8 ≤ j → ws.getD j 0 = 0
  good : GoodT t

theorem fits_open {t : Tk} {ws : List Int} (h : Fits t ws) : openT ws = ⟨t.s, t.edits, false⟩ := by
  have e : openFrom ws 1024 0 ver0 = (t.s, t.edits) := by
    rw [open_chain h.chain h.big]
    cases hf : 1024 - t.edits with
    | zero => rfl
    | succ f =>
      unfold openFrom
      rw [if_neg]
      rintro ⟨_, _, h3⟩
      unfold goodAt at h3
      simp only [Bool.and_eq_true, decide_eq_true_eq] at h3
      rw [h.mark] at h3
      omega
  unfold openT
  rw [e]

theorem fits_zero (n : Nat) : Fits ⟨ver0, 0, false⟩ (List.replicate n 0) := by
  have h : ∀ j, (List.replicate n (0 : Int)).getD j 0 = 0 := fun j => by
    rw [List.getD_eq_getElem?_getD, List.getElem?_replicate]
    split <;> rfl
  exact ⟨.zero, by decide, h _, fun j _ => h j, ⟨good0, by decide⟩⟩
theorem fits_openT {t : Tk} {ws : List Int} (h : Fits t ws) : Fits (openT ws) ws := by
  rw [fits_open h]
  exact ⟨h.chain, h.big, h.mark, h.rest, ⟨h.good.s, h.good.edits⟩⟩

/-! ### what a record's words do to the disk -/
theorem getD_set (ws : List Int) (i j : Nat) (x : Int) : (ws.set i x).getD j 0 = if i = j ∧ i < ws.length then x else ws.getD j 0 := by
  rw [List.getD_eq_getElem?_getD, List.getD_eq_getElem?_getD, List.getElem?_set]
  by_cases h : i = j
  · subst h
    by_cases h2 : i < ws.length
    · simp [h2]
    · simp [h2]
  · rw [if_neg h, if_neg (fun hh => h hh.1)]

/-- Words that are put: none but these places turn; where all were put they hold what was put. -/
theorem puts_spec (l : List Int) : ∀ (d : Dk) (a : Nat), a + l.length ≤ d.words.length →
    (∀ j, j < a ∨ a + l.length ≤ j → (putsD d a l).1.words.getD j 0 = d.words.getD j 0) ∧ ((putsD d a l).2 = true → ∀ i x, l[i]? = some x → (putsD d a l).1.words.getD (a + i) 0 = x) ∧ (d.left < 0 → (putsD d a l).2 = true ∧ (putsD d a l).1.left = d.left) := by
  induction l with
  | nil => intro d a _; exact ⟨fun _ _ => rfl, fun _ i x h => by simp at h, fun _ => ⟨rfl, rfl⟩⟩
  | cons x l ih =>
    intro d a hl
    simp only [List.length_cons] at hl
    unfold putsD
    unfold putD
    by_cases h0 : d.left = 0
    · rw [if_pos h0]
      simp only [Bool.false_eq_true, if_false]
      exact ⟨fun _ _ => trivial, fun h => h.elim, fun h => by omega⟩
    · rw [if_neg h0]
      simp only [if_true]
      obtain ⟨h1, h2, h3⟩ := ih ⟨d.words.set a x, if 0 < d.left then d.left - 1 else d.left⟩ (a + 1) (by simp; omega)
      simp only at h1 h2 h3
      refine ⟨fun j hj => ?_, fun hok i y hy => ?_, fun hneg => ?_⟩
      · rw [h1 j (by simp only [List.length_cons] at hj; omega), getD_set, if_neg]
        rintro ⟨e, _⟩
        simp only [List.length_cons] at hj
        omega
      · cases i with
        | zero =>
          simp at hy
          subst hy
          exact (h1 a (.inl (by omega))).trans (by rw [getD_set, if_pos ⟨rfl, by omega⟩])
        | succ i =>
          have := h2 hok i y (by simpa using hy)
          rw [show a + (i + 1) = a + 1 + i from by omega]
          exact this
      · rw [if_neg (by omega)] at h3 ⊢
        exact h3 hneg

theorem puts_first (x : Int) (l : List Int) (d : Dk) (a : Nat) (ha : a + (l.length + 1) ≤ d.words.length) : (putsD d a (x :: l)).1.words = d.words ∨ (putsD d a (x :: l)).1.words.getD a 0 = x := by
  unfold putsD putD
  by_cases h0 : d.left = 0
  · rw [if_pos h0]; exact .inl rfl
  · rw [if_neg h0]
    simp only [if_true]
    right
    obtain ⟨h1, _, _⟩ := puts_spec l ⟨d.words.set a x, if 0 < d.left then d.left - 1 else d.left⟩ (a + 1) (by simp; omega)
    rw [h1 a (.inl (by omega))]
    simp only
    rw [getD_set, if_pos ⟨rfl, by omega⟩]

/-- A record that is put. -/
theorem rec_spec (d : Dk) (a : Nat) (e : Ed) (ha : a + 8 ≤ d.words.length) :
    (∀ j, j < a ∨ a + 8 ≤ j → (putRec d a e).1.words.getD j 0 = d.words.getD j 0) ∧ ((putRec d a e).2 = true → (putRec d a e).1.words.getD a 0 = 1 ∧ edAt (putRec d a e).1.words a = e) ∧ ((putRec d a e).2 = false → (putRec d a e).1.words.getD a 0 = 0 ∨ (putRec d a e).1.words = d.words) ∧ (d.left < 0 → (putRec d a e).2 = true ∧ (putRec d a e).1.left = d.left) := by
  have hl : (0 :: (recW e).tail).length = 8 := rfl
  obtain ⟨h1, h2, h3⟩ := puts_spec (0 :: (recW e).tail) d a (by rw [hl]; exact ha)
  have hf := puts_first 0 (recW e).tail d a (by have : (recW e).tail.length = 7 := rfl; rw [this]; exact ha)
  have hlen := puts_len (0 :: (recW e).tail) d a
  rw [hl] at h1
  unfold putRec
  cases hp : putsD d a (0 :: (recW e).tail) with
  | mk d1 ok =>
    rw [hp] at h1 h2 h3 hf hlen
    simp only at h1 h2 h3 hf hlen ⊢
    cases ok with
    | false =>
      simp only [Bool.false_eq_true, if_false]
      refine ⟨h1, fun h => h.elim, fun _ => hf.symm, fun h => ?_⟩
      exact absurd (h3 h).1 (by simp)
    | true =>
      simp only [if_true]
      have g := fun i x hx => h2 rfl i x hx
      have g0 := g 0 0 rfl
      rw [Nat.add_zero] at g0
      unfold putD
      by_cases h0 : d1.left = 0
      · rw [if_pos h0]
        refine ⟨h1, (fun h => by cases h), (fun _ => Or.inl g0), fun h => ?_⟩
        have := (h3 h).2
        omega
      · rw [if_neg h0]
        simp only
        have ha1 : a < d1.words.length := by omega
        refine ⟨fun j hj => ?_, fun _ => ⟨?_, ?_⟩, (fun h => by cases h), fun h => ⟨trivial, ?_⟩⟩
        · rw [getD_set, if_neg (by omega)]
          exact h1 j hj
        · rw [getD_set, if_pos ⟨rfl, ha1⟩]
        · have hk : ∀ i, 1 ≤ i → (d1.words.set a 1).getD (a + i) 0 = d1.words.getD (a + i) 0 := fun i hi => by rw [getD_set, if_neg (by omega)]
          unfold edAt
          rw [hk 1 (by omega), hk 2 (by omega), hk 3 (by omega), hk 4 (by omega), hk 5 (by omega), hk 6 (by omega), hk 7 (by omega)]
          rw [g 1 e.do_ rfl, g 2 e.n rfl, g 3 e.t.at_ rfl, g 4 e.t.long rfl, g 5 e.t.lt rfl, g 6 e.t.al rfl, g 7 e.t.oc rfl]
        · have := (h3 h).2
          rw [if_neg (by omega)]
          exact this

/-- An edit: disk and take still fit. -/
theorem fits_do {t : Tk} {d : Dk} (h : Fits t d.words) (e0 : Ed) : Fits (doT t d e0).1 (doT t d e0).2.1.words := by
  have hg := (do_good h.good d e0).1
  unfold doT at hg ⊢
  split
  · exact h
  · rename_i hb
    rw [if_neg hb] at hg
    simp only at hg ⊢
    split
    · exact h
    · rename_i he
      rw [if_neg he] at hg
      have he' : errE t.s (plainE e0) = 0 := by omega
      split
      · exact h
      · rename_i hr
        rw [if_neg hr] at hg
        have hlen := rec_len d (t.edits * 8) (plainE e0)
        obtain ⟨h1, h2, h3, _⟩ := rec_spec d (t.edits * 8) (plainE e0) (by omega)
        cases hp : putRec d (t.edits * 8) (plainE e0) with
        | mk d' ok =>
          rw [hp] at h1 h2 h3 hlen hg
          simp only at h1 h2 h3 hlen hg ⊢
          have hc : Chain d'.words t.edits t.s := h.chain.congr hlen (fun j hj => h1 j (.inl hj))
          have hbig := h.big
          cases ok with
          | true =>
            simp only [if_true] at hg ⊢
            obtain ⟨m1, m2⟩ := h2 rfl
            have hc2 := Chain.next hc (by rw [hlen]; omega) (by omega) (by
              unfold goodAt
              rw [m1, m2, plain_plain, he']
              simp)
            rw [m2] at hc2
            refine ⟨hc2, by simp only; omega, ?_, fun j hj => ?_, hg⟩
            · simp only
              rw [h1 _ (.inr (by omega))]
              exact h.rest _ (by omega)
            · simp only at hj
              rw [h1 _ (.inr (by omega))]
              exact h.rest _ (by omega)
          | false =>
            simp only [Bool.false_eq_true, if_false] at hg ⊢
            refine ⟨hc, hbig, ?_, fun j hj => ?_, hg⟩
            · simp only
              rcases h3 rfl with h | h'
              · exact h
              · rw [h']; exact h.mark
            · simp only at hj
              rw [h1 _ (.inr hj)]
              exact h.rest _ hj

/-! ### steps of which none pokes -/
def noPoke (p : Stp) : Stp := { p with poke := 0 }

theorem step0 {t : Tk} {d : Dk} {p : Stp} (hp : p.poke = 0) {t1 : Tk} {l : Int} {R : Tk × Dk × Int} (h1 : (if p.open_ = true then openT d.words else t) = t1) (h2 : (if p.power ≠ 0 then IntKind.i64.wrap (p.power - 1) else d.left) = l)
    (h3 : (if p.e.do_ ≠ 0 then doT t1 ⟨d.words, l⟩ p.e else (t1, ⟨d.words, l⟩, 0)) = R) : stepK t d p = (R.1, R.2.1, tonesT R.1 ⟨R.2.2, 0, []⟩) := by
  unfold stepK
  have hn : ¬ (0 < p.poke ∧ p.poke ≤ (d.words.length : Int)) := by omega
  simp only [h2]
  rw [if_neg hn]
  simp only [h1, h3]

theorem fits_step {t : Tk} {d : Dk} (h : Fits t d.words) {p : Stp} (hp : p.poke = 0) : Fits (stepK t d p).1 (stepK t d p).2.1.words := by
  obtain ⟨l, hl⟩ : ∃ l, (if p.power ≠ 0 then IntKind.i64.wrap (p.power - 1) else d.left) = l := ⟨_, rfl⟩
  rw [step0 hp rfl hl rfl]
  have h1 : Fits (if p.open_ = true then openT d.words else t) d.words := by
    split
    · exact fits_openT h
    · exact h
  simp only
  by_cases hd : p.e.do_ ≠ 0
  · rw [if_pos hd]
    exact fits_do (d := ⟨d.words, l⟩) h1 p.e
  · rw [if_neg hd]
    exact h1

theorem wrong_ne {t : Tone} : wrongT [t] = 0 ∨ wrongT [t] = 2 ∨ wrongT [t] = 3 := by
  rw [wrong_one]
  split
  · exact .inr (.inr rfl)
  · split
    · exact .inr (.inl rfl)
    · exact .inl rfl
theorem err_small (s : Ver) (e : Ed) : 0 ≤ errE s e ∧ errE s e ≤ 6 := by
  unfold errE
  have h := wrong_ne (t := e.t)
  split
  · split
    · omega
    · split <;> omega
  · split
    · split <;> omega
    · split
      · split <;> omega
      · split
        · split <;> omega
        · omega

/-- What an edit answers, and what it leaves. -/
theorem do_cases (t : Tk) (d : Dk) (e : Ed) :
    (t.broken = true ∧ (doT t d e).2.2 = 9 ∧ (doT t d e).1 = t) ∨
    (t.broken = false ∧ 0 < (doT t d e).2.2 ∧ (doT t d e).2.2 ≤ 6 ∧ (doT t d e).1 = t) ∨
    (t.broken = false ∧ (doT t d e).2.2 = 11 ∧ (doT t d e).1 = ⟨t.s, t.edits, true⟩) ∨
    (t.broken = false ∧ (doT t d e).2.2 = 0 ∧ (doT t d e).1.broken = false) := by
  unfold doT
  split
  · rename_i h
    exact .inl ⟨h, rfl, rfl⟩
  · rename_i h
    have hb : t.broken = false := by simpa using h
    have := err_small t.s (plainE e)
    simp only
    split
    · exact .inr (.inl ⟨hb, by simp only; omega, by simp only; omega, rfl⟩)
    · split
      · exact .inr (.inl ⟨hb, by simp only; omega, by simp only; omega, rfl⟩)
      · cases hp : putRec d (t.edits * 8) (plainE e) with
        | mk d' ok =>
          cases ok with
          | true => exact .inr (.inr (.inr ⟨hb, rfl, rfl⟩))
          | false => exact .inr (.inr (.inl ⟨hb, rfl, rfl⟩))

/-- What is kept, as it is looked at: broken or not, and the line that is wanted, behind a step. -/
def seenB (b : Bool) (p : Stp) (x : Tn) : Bool :=
  let b1 := if p.open_ = true then false else b
  if p.e.do_ ≠ 0 ∧ b1 = false ∧ x.err = 11 then true else b1
def seenW (b : Bool) (want : List Tone) (p : Stp) (x : Tn) : List Tone :=
  let b1 := if p.open_ = true then false else b
  if p.e.do_ ≠ 0 ∧ b1 = false ∧ x.err = 11 then want else if p.e.do_ ≠ 0 ∧ x.err = 0 then x.ts else want

theorem keep_step {t : Tk} {d : Dk} (h : Fits t d.words) {p : Stp} (hp : p.poke = 0) :
    (stepK t d p).1.broken = seenB t.broken p (stepK t d p).2.2 ∧ (stepK t d p).1.s.now = seenW t.broken t.s.now p (stepK t d p).2.2 ∧
    (stepK t d p).2.2 = ⟨(stepK t d p).2.2.err, if (stepK t d p).1.broken = true then 9 else 0, if (stepK t d p).1.broken = true then [] else (stepK t d p).1.s.now⟩ ∧
    (p.e.do_ ≠ 0 → (stepK t d p).2.2.err = 0 → (if p.open_ = true then false else t.broken) = false) := by
  obtain ⟨t1, ht1⟩ : ∃ t1, (if p.open_ = true then openT d.words else t) = t1 := ⟨_, rfl⟩
  have hb1 : t1.broken = if p.open_ = true then false else t.broken := by
    rw [← ht1]
    split
    · rfl
    · rfl
  have hs1 : t1.s = t.s := by
    rw [← ht1]
    split
    · rw [fits_open h]
    · rfl
  obtain ⟨l, hl⟩ : ∃ l, (if p.power ≠ 0 then IntKind.i64.wrap (p.power - 1) else d.left) = l := ⟨_, rfl⟩
  rw [step0 hp ht1 hl rfl]
  unfold seenB seenW
  simp only
  rw [← hb1, ← hs1]
  by_cases hd : p.e.do_ ≠ 0
  · rw [if_pos hd]
    have hc := do_cases t1 ⟨d.words, l⟩ p.e
    obtain ⟨R, hR⟩ : ∃ R, doT t1 ⟨d.words, l⟩ p.e = R := ⟨_, rfl⟩
    rw [hR] at hc ⊢
    obtain ⟨t2, d2, er⟩ := R
    simp only at hc ⊢
    unfold tonesT
    rcases hc with ⟨h1, h2, h3⟩ | ⟨h1, h2, h3, h4⟩ | ⟨h1, h2, h3⟩ | ⟨h1, h2, h3⟩
    · subst h2
      subst h3
      simp [hd, h1]
    · subst h4
      simp only [h1, Bool.false_eq_true, if_false]
      have e1 : ¬ er = 11 := by omega
      have e2 : ¬ er = 0 := by omega
      simp [hd, h1, e1, e2]
    · subst h2
      subst h3
      simp [hd, h1]
    · subst h2
      simp [hd, h1, h3]
  · rw [if_neg hd]
    unfold tonesT
    simp only
    cases hbb : t1.broken <;> simp [hd, hbb]

theorem run_len (ps : List Stp) : ∀ (t : Tk) (d : Dk), (runK t d ps).1.length = ps.length := by
  induction ps with
  | nil => intro t d; rfl
  | cons p r ih =>
    intro t d
    show ((stepK t d p).2.2 :: (runK (stepK t d p).1 (stepK t d p).2.1 r).1).length = _
    rw [List.length_cons, ih, List.length_cons]
end Go.Proofs.Ytdnmimfichijgaa.KJ
