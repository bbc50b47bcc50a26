/- The reference's takes: all edits gone through anew; plain. -/
import Derived.Test.YtdnmimfichijgaaKOrdP
namespace Go.Proofs.Ytdnmimfichijgaa.KRef
open Go Go.Proofs.Ytdnmimfichijgaa.KMod Go.Proofs.Ytdnmimfichijgaa.KTk Go.Proofs.Ytdnmimfichijgaa.KJ Go.Proofs.Ytdnmimfichijgaa.KOrd Go.Proofs.Ytdnmimfichijgaa.KOrdP
set_option linter.unusedVariables false
set_option linter.unusedSimpArgs false

def ed0 : Ed := ⟨0, 0, tone0⟩

/-- Standing, edit by edit: what stands, and what was undone. -/
def std1 (s : List Ed × List Ed) (e : Ed) : List Ed × List Ed :=
  if e.do_ = 3 then (s.1.dropLast, s.2 ++ [s.1.getLastD ed0])
  else if e.do_ = 4 then (s.1 ++ [s.2.getLastD ed0], s.2.dropLast)
  else (s.1 ++ [e], [])
def stdR (l : List Ed) : List Ed × List Ed := l.foldl std1 ([], [])
theorem std_snoc (l : List Ed) (e : Ed) : stdR (l ++ [e]) = std1 (stdR l) e := by
  unfold stdR
  rw [List.foldl_append]
  rfl

/-- An edit's line. -/
def lin1 (l : List Tone) (e : Ed) : List Tone := if e.do_ = 1 then insR l e.t else l.eraseIdx e.n.toNat
def linR (up : List Ed) : List Tone := up.foldl lin1 []
theorem lin_snoc (up : List Ed) (e : Ed) : linR (up ++ [e]) = lin1 (linR up) e := by
  unfold linR
  rw [List.foldl_append]
  rfl
def tonesR (l : List Ed) : List Tone := linR (stdR l).1

/-- What is wrong with one edit more. -/
def mayR (l : List Ed) (e : Ed) : Int :=
  if e.do_ = 1 then (if wrongT [e.t] ≠ 0 then wrongT [e.t] else if 1024 ≤ (tonesR l).length then 5 else 0)
  else if e.do_ = 2 then (if e.n < 0 ∨ ((tonesR l).length : Int) ≤ e.n then 3 else 0)
  else if e.do_ = 3 then (if (stdR l).1.length = 0 then 6 else 0)
  else if e.do_ = 4 then (if (stdR l).2.length = 0 then 6 else 0)
  else 1

/-- The versions are the lines of what stands and what was undone. -/
structure RelV (s : Ver) (l : List Ed) : Prop where
  at_ : s.at_ = (stdR l).1.length
  len : s.vs.length = (stdR l).1.length + (stdR l).2.length + 1
  get : ∀ k, k ≤ (stdR l).1.length + (stdR l).2.length → s.vs[k]? = some (linR (((stdR l).1 ++ (stdR l).2.reverse).take k))

theorem rel0 : RelV ver0 [] := ⟨rfl, rfl, fun k hk => by
  have : k = 0 := by
    have h : k ≤ 0 := hk
    omega
  subst this
  rfl⟩

theorem RelV.now {s : Ver} {l : List Ed} (h : RelV s l) : s.now = tonesR l := by
  unfold Ver.now
  rw [List.getD_eq_getElem?_getD, h.get s.at_ (by rw [h.at_]; omega), h.at_]
  rw [List.take_left]
  rfl

theorem may_err {s : Ver} {l : List Ed} {n : Nat} (h : RelV s l) (hg : GoodV s n) (e : Ed) : mayR l e = errE s e := by
  have hb := hg.big _ hg.now_mem
  unfold mayR errE
  rw [← h.now]
  have h1 := h.at_
  have h2 := h.len
  by_cases e1 : e.do_ = 1
  · rw [if_pos e1, if_pos e1]
    split
    · rfl
    · by_cases hl : s.now.length = 1024
      · rw [if_pos hl, if_pos (by omega)]
      · rw [if_neg hl, if_neg (by omega)]
  rw [if_neg e1, if_neg e1]
  by_cases e2 : e.do_ = 2
  · rw [if_pos e2, if_pos e2]
  rw [if_neg e2, if_neg e2]
  by_cases e3 : e.do_ = 3
  · rw [if_pos e3, if_pos e3]
    by_cases hl : s.at_ = 0
    · rw [if_pos hl, if_pos (by omega)]
    · rw [if_neg hl, if_neg (by omega)]
  rw [if_neg e3, if_neg e3]
  by_cases e4 : e.do_ = 4
  · rw [if_pos e4, if_pos e4]
    by_cases hl : s.at_ + 1 = s.vs.length
    · rw [if_pos hl, if_pos (by omega)]
    · rw [if_neg hl, if_neg (by omega)]
  rw [if_neg e4, if_neg e4]

theorem rel_next {s : Ver} {l : List Ed} {n : Nat} (h : RelV s l) (hg : GoodV s n) {e : Ed} (he : errE s e = 0) : RelV (nextE s e) (l ++ [e]) := by
  have hk := err_kind he
  have hstd := std_snoc l e
  obtain ⟨h1, h2, h3⟩ := h
  have hnow := RelV.now ⟨h1, h2, h3⟩
  unfold tonesR at hnow
  obtain ⟨⟨up, dn⟩, hS⟩ : ∃ S, stdR l = S := ⟨_, rfl⟩
  rw [hS] at hstd h1 h2 h3 hnow
  simp only at h1 h2 h3 hnow
  have push : ∀ L : List Tone, (e.do_ = 1 ∨ e.do_ = 2) → lin1 s.now e = L → nextE s e = ⟨s.vs.take (s.at_ + 1) ++ [L], s.at_ + 1⟩ → RelV (nextE s e) (l ++ [e]) := fun L hd hL hn => by
    have hst : std1 (up, dn) e = (up ++ [e], []) := by unfold std1; rw [if_neg (by omega), if_neg (by omega)]
    rw [hn]
    refine ⟨?_, ?_, fun k hk => ?_⟩
    · rw [hstd, hst]; simp only [List.length_append, List.length_singleton]; omega
    · rw [hstd, hst]; simp only [List.length_append, List.length_singleton, List.length_take, List.length_nil]; omega
    · rw [hstd, hst] at hk ⊢
      simp only [List.length_append, List.length_singleton, List.length_nil, List.reverse_nil, List.append_nil] at hk ⊢
      by_cases hkl : k ≤ up.length
      · rw [List.getElem?_append_left (by simp; omega), List.getElem?_take, if_pos (by omega), h3 k (by omega)]
        rw [List.take_append_of_le_length hkl, List.take_append_of_le_length hkl]
      · have hke : k = up.length + 1 := by omega
        subst hke
        rw [List.getElem?_append_right (by simp; omega)]
        have h0 : up.length + 1 - (s.vs.take (s.at_ + 1)).length = 0 := by simp; omega
        rw [h0]
        rw [List.take_of_length_le (by simp), lin_snoc, ← hnow, hL]
        rfl
  rcases hk with hd | hd | hd | hd
  · refine push _ (.inl hd) ?_ (by unfold nextE; rw [if_pos hd])
    unfold lin1
    rw [if_pos hd]
    exact (ins_same (hg.srt _ hg.now_mem)).symm
  · refine push _ (.inr hd) ?_ (by unfold nextE; rw [if_neg (by omega), if_pos hd])
    unfold lin1
    rw [if_neg (by omega)]
  · have hn : nextE s e = ⟨s.vs, s.at_ - 1⟩ := by unfold nextE; rw [if_neg (by omega), if_neg (by omega), if_pos hd]
    have h0 : s.at_ ≠ 0 := by
      intro h0
      unfold errE at he
      rw [if_neg (by omega), if_neg (by omega), if_pos hd, if_pos h0] at he
      cases he
    have hst : std1 (up, dn) e = (up.dropLast, dn ++ [up.getLastD ed0]) := by unfold std1; rw [if_pos hd]
    have hne : up ≠ [] := by intro hu; subst hu; simp at h1; omega
    have hup : up = up.dropLast ++ [up.getLastD ed0] := by
      rw [List.getLastD_eq_getLast?, List.getLast?_eq_some_getLast hne]
      exact (List.dropLast_concat_getLast hne).symm
    have hul : up.length = up.dropLast.length + 1 := by simp; omega
    rw [hn]
    refine ⟨?_, ?_, fun k hk => ?_⟩
    · rw [hstd, hst]; simp only; omega
    · rw [hstd, hst]; simp only [List.length_append, List.length_singleton]; omega
    · rw [hstd, hst] at hk ⊢
      simp only [List.length_append, List.length_singleton, List.reverse_append, List.reverse_singleton] at hk ⊢
      rw [h3 k (by omega)]
      rw [← List.append_assoc, ← hup]
  · have hn : nextE s e = ⟨s.vs, s.at_ + 1⟩ := by unfold nextE; rw [if_neg (by omega), if_neg (by omega), if_neg (by omega)]
    have h0 : s.at_ + 1 ≠ s.vs.length := by
      intro h0
      unfold errE at he
      rw [if_neg (by omega), if_neg (by omega), if_neg (by omega), if_pos hd, if_pos h0] at he
      cases he
    have hst : std1 (up, dn) e = (up ++ [dn.getLastD ed0], dn.dropLast) := by unfold std1; rw [if_neg (by omega), if_pos hd]
    have hne : dn ≠ [] := by intro hu; subst hu; simp at h2; omega
    have hdn : dn = dn.dropLast ++ [dn.getLastD ed0] := by
      rw [List.getLastD_eq_getLast?, List.getLast?_eq_some_getLast hne]
      exact (List.dropLast_concat_getLast hne).symm
    have hdl : dn.length = dn.dropLast.length + 1 := by
      have := List.length_pos_iff.2 hne
      simp; omega
    rw [hn]
    refine ⟨?_, ?_, fun k hk => ?_⟩
    · rw [hstd, hst]; simp only [List.length_append, List.length_singleton]; omega
    · rw [hstd, hst]; simp only [List.length_append, List.length_singleton]; omega
    · rw [hstd, hst] at hk ⊢
      simp only [List.length_append, List.length_singleton] at hk ⊢
      rw [h3 k (by omega)]
      have : dn.reverse = [dn.getLastD ed0] ++ dn.dropLast.reverse := by
        conv => lhs; rw [hdn, List.reverse_append, List.reverse_singleton]
      rw [this, List.append_assoc]

/-- The edits on a disk. -/
def liesFrom (ws : List Int) : Nat → List Ed → List Ed
  | 0, l => l
  | f + 1, l => if l.length * 8 + 8 ≤ ws.length ∧ l.length < 1024 ∧ ws.getD (l.length * 8) 0 = 1 ∧ edAt ws (l.length * 8) = plainE (edAt ws (l.length * 8)) ∧ mayR l (edAt ws (l.length * 8)) = 0 then liesFrom ws f (l ++ [edAt ws (l.length * 8)]) else l
def liesR (ws : List Int) : List Ed := liesFrom ws 1024 []

theorem lies_rel (ws : List Int) : ∀ (f : Nat) (l : List Ed) (s : Ver), RelV s l → GoodV s l.length → RelV (openFrom ws f l.length s).1 (liesFrom ws f l) ∧ (openFrom ws f l.length s).2 = (liesFrom ws f l).length
  | 0, l, s, h, hg => ⟨h, rfl⟩
  | f + 1, l, s, h, hg => by
    unfold openFrom liesFrom
    have hm := may_err h hg (edAt ws (l.length * 8))
    by_cases hc : l.length * 8 + 8 ≤ ws.length ∧ l.length < 1024 ∧ goodAt ws s (l.length * 8) = true
    · rw [if_pos hc]
      have hc3 := hc.2.2
      unfold goodAt at hc3
      simp only [Bool.and_eq_true, decide_eq_true_eq] at hc3
      rw [if_pos ⟨hc.1, hc.2.1, hc3.1.1, hc3.1.2, by rw [hm]; exact hc3.2⟩]
      have ih := lies_rel ws f (l ++ [edAt ws (l.length * 8)]) (nextE s (edAt ws (l.length * 8))) (rel_next h hg hc3.2) (by rw [List.length_append, List.length_singleton]; exact next_good hg hc3.2)
      rw [List.length_append, List.length_singleton] at ih
      exact ih
    · rw [if_neg hc, if_neg]
      · exact ⟨h, rfl⟩
      · rintro ⟨c1, c2, c3, c4, c5⟩
        apply hc
        refine ⟨c1, c2, ?_⟩
        unfold goodAt
        simp only [Bool.and_eq_true, decide_eq_true_eq]
        exact ⟨⟨c3, c4⟩, by rw [← hm]; exact c5⟩

/-- The words of a record, as they come: nought, the words, the mark. -/
def recL (e : Ed) : List Int := 0 :: (recW e).tail ++ [1]
/-- Words are put, one behind the other; word i at place i % 8. -/
def putsR (d : Dk) (a : Nat) : Nat → List Int → Dk × Bool
  | _, [] => (d, true)
  | i, x :: r => if d.left = 0 then (d, false) else putsR ⟨d.words.set (a + i % 8) x, if 0 < d.left then d.left - 1 else d.left⟩ a (i + 1) r

theorem putsR_cons (d : Dk) (a i : Nat) (x : Int) (r : List Int) : putsR d a i (x :: r) = if d.left = 0 then (d, false) else putsR ⟨d.words.set (a + i % 8) x, if 0 < d.left then d.left - 1 else d.left⟩ a (i + 1) r := rfl
theorem putsD_cons (d : Dk) (a : Nat) (x : Int) (r : List Int) : putsD d a (x :: r) = if d.left = 0 then (d, false) else putsD ⟨d.words.set a x, if 0 < d.left then d.left - 1 else d.left⟩ (a + 1) r := by
  conv => lhs; unfold putsD putD
  by_cases h0 : d.left = 0
  · simp [h0]
  · simp [h0]
theorem puts_r (l : List Int) : ∀ (d : Dk) (a i : Nat) (r : List Int), i + l.length ≤ 8 → putsR d a i (l ++ r) = (let (d', ok) := putsD d (a + i) l; if ok = true then putsR d' a (i + l.length) r else (d', false)) := by
  induction l with
  | nil => intro d a i r hi; rfl
  | cons x l ih =>
    intro d a i r hi
    simp only [List.length_cons] at hi
    rw [List.cons_append, putsR_cons, putsD_cons]
    by_cases h0 : d.left = 0
    · rw [if_pos h0, if_pos h0]
      rfl
    · rw [if_neg h0, if_neg h0]
      rw [ih _ a (i + 1) r (by omega), Nat.mod_eq_of_lt (by omega)]
      rw [show a + i + 1 = a + (i + 1) from by omega, show i + (x :: l).length = i + 1 + l.length from by rw [List.length_cons]; omega]

theorem rec_r (d : Dk) (a : Nat) (e : Ed) : putsR d a 0 (recL e) = putRec d a e := by
  unfold recL putRec
  rw [puts_r _ d a 0 [1] (by simp [recW])]
  have hl : (0 :: (recW e).tail).length = 8 := rfl
  rw [hl, Nat.add_zero]
  cases putsD d a (0 :: (recW e).tail) with
  | mk d' ok =>
    simp only
    cases ok with
    | false => rfl
    | true =>
      simp only [if_true]
      unfold putsR putsR putD
      by_cases h0 : d'.left = 0
      · simp [h0]
      · simp [h0]

/-- The reference's step. -/
structure Rs where
  done : List Ed
  broken : Bool
def doR (t : Rs) (d : Dk) (e0 : Ed) : Rs × Dk × Int :=
  if t.broken = true then (t, d, 9)
  else if mayR t.done (plainE e0) ≠ 0 then (t, d, mayR t.done (plainE e0))
  else if 1024 ≤ t.done.length ∨ d.words.length < 8 * t.done.length + 8 then (t, d, 4)
  else
    let (d', ok) := putsR d (8 * t.done.length) 0 (recL (plainE e0))
    if ok = true then (⟨t.done ++ [plainE e0], false⟩, d', 0) else (⟨t.done, true⟩, d', 11)
def stepR (t : Rs) (d : Dk) (p : Stp) : Rs × Dk × Tn :=
  let d1 : Dk := ⟨d.words, if p.power ≠ 0 then IntKind.i64.wrap (p.power - 1) else d.left⟩
  let d2 : Dk := if 0 < p.poke ∧ p.poke ≤ (d1.words.length : Int) then ⟨d1.words.set (p.poke - 1).toNat p.word, d1.left⟩ else d1
  let t1 := if p.open_ = true then ⟨liesR d2.words, false⟩ else t
  let (t2, d3, x) := if p.e.do_ ≠ 0 then doR t1 d2 p.e else (t1, d2, 0)
  (t2, d3, if t2.broken = true then ⟨x, 9, []⟩ else ⟨x, 0, tonesR t2.done⟩)
def runR (t : Rs) (d : Dk) : List Stp → List Tn × Dk
  | [] => ([], d)
  | p :: r => let (t', d', x) := stepR t d p; let (xs, d'') := runR t' d' r; (x :: xs, d'')

/-- The two takes are the same. -/
structure RelT (t : Tk) (r : Rs) : Prop where
  v : RelV t.s r.done
  n : t.edits = r.done.length
  b : t.broken = r.broken
  g : GoodT t

theorem rel_open (ws : List Int) : RelT (openT ws) ⟨liesR ws, false⟩ := by
  obtain ⟨h1, h2⟩ := lies_rel ws 1024 [] ver0 rel0 good0
  have hg := openT_good ws
  exact ⟨h1, h2, rfl, hg⟩

theorem rel_do {t : Tk} {r : Rs} (h : RelT t r) (d : Dk) (e : Ed) : RelT (doT t d e).1 (doR r d e).1 ∧ (doR r d e).2 = (doT t d e).2 := by
  have hg := (do_good h.g d e).1
  have hm := may_err h.v h.g.s (plainE e)
  have hgt := h.g
  obtain ⟨done, br⟩ := r
  obtain ⟨hv, hn, hb, _⟩ := h
  simp only at hv hn hb hm
  subst hb
  have hed := hgt.edits
  unfold doT at hg ⊢
  unfold doR
  simp only
  by_cases hbr : t.broken = true
  · rw [if_pos hbr] at hg ⊢
    rw [if_pos hbr]
    exact ⟨⟨hv, hn, rfl, hg⟩, rfl⟩
  rw [if_neg hbr] at hg ⊢
  rw [if_neg hbr, hm]
  simp only at hg ⊢
  by_cases hE : errE t.s (plainE e) ≠ 0
  · rw [if_pos hE] at hg ⊢
    rw [if_pos hE]
    exact ⟨⟨hv, hn, rfl, hg⟩, rfl⟩
  rw [if_neg hE] at hg ⊢
  rw [if_neg hE]
  by_cases hr : t.edits = 1024 ∨ d.words.length < t.edits * 8 + 8
  · rw [if_pos hr] at hg ⊢
    rw [if_pos (by omega)]
    exact ⟨⟨hv, hn, rfl, hg⟩, rfl⟩
  have hr2 : ¬ (1024 ≤ done.length ∨ d.words.length < 8 * done.length + 8) := by omega
  rw [if_neg hr] at hg ⊢
  rw [if_neg hr2, rec_r, show 8 * done.length = t.edits * 8 from by omega]
  cases hp : putRec d (t.edits * 8) (plainE e) with
  | mk d' ok =>
    rw [hp] at hg
    cases ok with
    | false => exact ⟨⟨hv, hn, rfl, hg⟩, rfl⟩
    | true =>
      refine ⟨⟨rel_next hv hgt.s (by omega), ?_, rfl, hg⟩, rfl⟩
      simp only [if_true, List.length_append, List.length_singleton]
      omega

theorem rel_step {t : Tk} {r : Rs} (h : RelT t r) (d : Dk) (p : Stp) : RelT (stepK t d p).1 (stepR r d p).1 ∧ (stepR r d p).2 = (stepK t d p).2 := by
  unfold stepK stepR
  simp only
  obtain ⟨d2, hd2⟩ : ∃ d2 : Dk, (if 0 < p.poke ∧ p.poke ≤ (d.words.length : Int) then (⟨d.words.set (p.poke - 1).toNat p.word, if p.power ≠ 0 then IntKind.i64.wrap (p.power - 1) else d.left⟩ : Dk) else ⟨d.words, if p.power ≠ 0 then IntKind.i64.wrap (p.power - 1) else d.left⟩) = d2 := ⟨_, rfl⟩
  rw [hd2]
  have h1 : RelT (if p.open_ = true then openT d2.words else t) (if p.open_ = true then ⟨liesR d2.words, false⟩ else r) := by
    split
    · exact rel_open _
    · exact h
  obtain ⟨t1, ht1⟩ : ∃ t1, (if p.open_ = true then openT d2.words else t) = t1 := ⟨_, rfl⟩
  obtain ⟨r1, hr1⟩ : ∃ r1, (if p.open_ = true then (⟨liesR d2.words, false⟩ : Rs) else r) = r1 := ⟨_, rfl⟩
  rw [ht1, hr1] at h1
  rw [ht1, hr1]
  have tn : ∀ {t2 : Tk} {r2 : Rs} (x : Int), RelT t2 r2 → (if r2.broken = true then (⟨x, 9, []⟩ : Tn) else ⟨x, 0, tonesR r2.done⟩) = tonesT t2 ⟨x, 0, []⟩ := fun {t2 r2} x h => by
    unfold tonesT
    rw [← h.b, h.v.now]
  by_cases hd : p.e.do_ ≠ 0
  · rw [if_pos hd, if_pos hd]
    obtain ⟨g1, g2⟩ := rel_do h1 d2 p.e
    have e1 : (doR r1 d2 p.e).2.1 = (doT t1 d2 p.e).2.1 := by rw [g2]
    have e2 : (doR r1 d2 p.e).2.2 = (doT t1 d2 p.e).2.2 := by rw [g2]
    refine ⟨g1, ?_⟩
    simp only [e1, e2]
    rw [tn _ g1]
  · rw [if_neg hd, if_neg hd]
    exact ⟨h1, by rw [tn _ h1]⟩

theorem rel_run (ps : List Stp) : ∀ {t : Tk} {r : Rs} (d : Dk), RelT t r → runR r d ps = runK t d ps := by
  induction ps with
  | nil => intro t r d h; rfl
  | cons p ps ih =>
    intro t r d h
    obtain ⟨h1, h2⟩ := rel_step h d p
    unfold runK runR
    have e1 : (stepR r d p).2.1 = (stepK t d p).2.1 := by rw [h2]
    have e2 : (stepR r d p).2.2 = (stepK t d p).2.2 := by rw [h2]
    simp only [e1, e2, ih _ h1]

/-- The law, plainly. -/
theorem plays (ws : List Int) (ps : List Stp) : runR ⟨liesR ws, false⟩ ⟨ws, -1⟩ ps = runK (openT ws) ⟨ws, -1⟩ ps := rel_run ps _ (rel_open ws)
end Go.Proofs.Ytdnmimfichijgaa.KRef
