/- Edits, takes and disks: what is computed, in plain Lean. -/
import Derived.Test.YtdnmimfichijgaaKMod
namespace Go.Proofs.Ytdnmimfichijgaa.KTk
open Go Go.Proofs.Ytdnmimfichijgaa.KMod
set_option linter.unusedVariables false

structure Ed where
  do_ : Int
  n : Int
  t : Tone
deriving DecidableEq

def tone0 : Tone := ⟨0, 0, 0, 0, 0⟩
def Ed.cells (e : Ed) : List Value := [.int .i64 e.do_, .int .i64 e.n, .int .i64 e.t.at_, .int .i64 e.t.long, .int .i64 e.t.lt, .int .i64 e.t.al, .int .i64 e.t.oc]

def plainE (e : Ed) : Ed := if e.do_ = 1 then ⟨1, 0, e.t⟩ else if e.do_ = 2 then ⟨2, e.n, tone0⟩ else ⟨e.do_, 0, tone0⟩
theorem plain_do (e : Ed) : (plainE e).do_ = e.do_ := by
  unfold plainE
  split
  · rename_i h; exact h.symm
  · split
    · rename_i h; exact h.symm
    · rfl
theorem plain_plain (e : Ed) : plainE (plainE e) = plainE e := by
  unfold plainE
  by_cases h1 : e.do_ = 1
  · simp [h1]
  · by_cases h2 : e.do_ = 2
    · simp [h2]
    · simp [h1, h2]

/-- The words of an edit. -/
def recW (e : Ed) : List Int := [1, e.do_, e.n, e.t.at_, e.t.long, e.t.lt, e.t.al, e.t.oc]

/-- Versions, and which one is now. -/
structure Ver where
  vs : List (List Tone)
  at_ : Nat

def Ver.now (s : Ver) : List Tone := s.vs.getD s.at_ []
def ver0 : Ver := ⟨[[]], 0⟩

/-- What stands in the way of an edit. -/
def errE (s : Ver) (e : Ed) : Int :=
  if e.do_ = 1 then (if wrongT [e.t] ≠ 0 then wrongT [e.t] else if s.now.length = 1024 then 5 else 0)
  else if e.do_ = 2 then (if e.n < 0 ∨ (s.now.length : Int) ≤ e.n then 3 else 0)
  else if e.do_ = 3 then (if s.at_ = 0 then 6 else 0)
  else if e.do_ = 4 then (if s.at_ + 1 = s.vs.length then 6 else 0)
  else 1
/-- The versions behind an edit that nothing stands in the way of. -/
def nextE (s : Ver) (e : Ed) : Ver :=
  if e.do_ = 1 then ⟨s.vs.take (s.at_ + 1) ++ [insT s.now e.t], s.at_ + 1⟩
  else if e.do_ = 2 then ⟨s.vs.take (s.at_ + 1) ++ [s.now.eraseIdx e.n.toNat], s.at_ + 1⟩
  else if e.do_ = 3 then ⟨s.vs, s.at_ - 1⟩
  else ⟨s.vs, s.at_ + 1⟩

/-- What holds of versions at all times. -/
structure GoodV (s : Ver) (n : Nat) : Prop where
  at_ : s.at_ < s.vs.length
  many : s.vs.length ≤ n + 1
  big : ∀ v ∈ s.vs, v.length ≤ 1024
  ok : ∀ v ∈ s.vs, ∀ t ∈ v, okT t
  srt : ∀ v ∈ s.vs, Sorted v

theorem GoodV.now_mem {s : Ver} {n : Nat} (h : GoodV s n) : s.now ∈ s.vs := by
  unfold Ver.now
  rw [List.getD_eq_getElem?_getD, List.getElem?_eq_getElem h.at_]
  exact List.getElem_mem _
theorem GoodV.mono {s : Ver} {n m : Nat} (h : GoodV s n) (hm : n ≤ m) : GoodV s m := ⟨h.at_, by have := h.many; omega, h.big, h.ok, h.srt⟩
theorem GoodV.now_at {s : Ver} {n : Nat} (h : GoodV s n) : s.vs[s.at_]? = some s.now := by
  unfold Ver.now
  rw [List.getD_eq_getElem?_getD, List.getElem?_eq_getElem h.at_]
  rfl

theorem good0 : GoodV ver0 0 := ⟨by decide, by decide, by intro v hv; simp [ver0] at hv; subst hv; simp, by intro v hv; simp [ver0] at hv; subst hv; simp, by intro v hv; simp [ver0] at hv; subst hv; exact .nil⟩

theorem ins_len (v : List Tone) (t : Tone) : (insT v t).length = v.length + 1 := by
  unfold insT
  have := insK_le v t
  simp
  omega
theorem ins_mem {v : List Tone} {t x : Tone} (h : x ∈ insT v t) : x ∈ v ∨ x = t := by
  unfold insT at h
  rcases List.mem_append.1 h with h | h
  · exact .inl (List.mem_of_mem_take h)
  · rcases List.mem_cons.1 h with h | h
    · exact .inr h
    · exact .inl (List.mem_of_mem_drop h)

theorem tw_mem {p : Tone → Bool} : ∀ {l : List Tone} {a : Tone}, a ∈ l.takeWhile p → p a = true
  | [], a, h => by simp at h
  | x :: l, a, h => by
    cases hp : p x with
    | false => rw [List.takeWhile_cons_of_neg (by simp [hp])] at h; cases h
    | true =>
      rw [List.takeWhile_cons_of_pos hp] at h
      rcases List.mem_cons.1 h with rfl | h
      · exact hp
      · exact tw_mem h
theorem ins_sorted {v : List Tone} {t : Tone} (h : Sorted v) : Sorted (insT v t) := by
  unfold insT
  have hk := insK_eq v t h
  rw [hk]
  have h1 : v.take (insF v t) = v.takeWhile (fun x => !lessB t x) := by
    unfold insF
    exact (List.prefix_iff_eq_take.1 (List.takeWhile_prefix _)).symm
  have h2 : v.drop (insF v t) = v.dropWhile (fun x => !lessB t x) := by
    have e := List.takeWhile_append_dropWhile (p := fun x => !lessB t x) (l := v)
    unfold insF
    generalize hA : v.takeWhile (fun x => !lessB t x) = A at e ⊢
    generalize hB : v.dropWhile (fun x => !lessB t x) = B at e ⊢
    rw [← e, List.drop_append_of_le_length (Nat.le_refl _), List.drop_length, List.nil_append]
  unfold Sorted
  rw [List.pairwise_append]
  refine ⟨sorted_take h _, ?_, ?_⟩
  · rw [List.pairwise_cons]
    refine ⟨fun a ha => ?_, sorted_drop h _⟩
    rw [h2] at ha
    cases hd : v.dropWhile (fun x => !lessB t x) with
    | nil => rw [hd] at ha; simp at ha
    | cons y r =>
      have hy : lessB t y = true := by
        have := List.head?_dropWhile_not (fun x => !lessB t x) v
        rw [hd] at this
        simpa using this
      rw [hd] at ha
      have hs : Sorted (y :: r) := by rw [← hd, ← h2]; exact sorted_drop h _
      rcases List.mem_cons.1 ha with rfl | ha
      · exact less_asymm hy
      · have := (List.pairwise_cons.1 hs).1 a ha
        cases hta : lessB a t with
        | false => rfl
        | true =>
          have h9 := less_trans hta hy
          rw [this] at h9
          cases h9
  · intro a ha b hb
    rw [h1] at ha
    have hta : lessB t a = false := by
      have := tw_mem ha
      simpa using this
    rcases List.mem_cons.1 hb with rfl | hb
    · exact hta
    · have hs := h
      rw [← List.take_append_drop (insF v t) v] at hs
      exact (List.pairwise_append.1 hs).2.2 a (by rw [h1]; exact ha) b hb

theorem erase_mem {v : List Tone} {k : Nat} {x : Tone} (h : x ∈ v.eraseIdx k) : x ∈ v := List.mem_of_mem_eraseIdx h

theorem next_good {s : Ver} {e : Ed} {n : Nat} (h : GoodV s n) (he : errE s e = 0) : GoodV (nextE s e) (n + 1) := by
  have hn := h.now_mem
  have push : ∀ l : List Tone, l.length ≤ 1024 → (∀ t ∈ l, okT t) → Sorted l → GoodV ⟨s.vs.take (s.at_ + 1) ++ [l], s.at_ + 1⟩ (n + 1) := fun l h1 h2 h3 => by
    have ha := h.at_
    have hm := h.many
    refine ⟨by simp; omega, by simp; omega, ?_, ?_, ?_⟩
    · intro v hv
      rcases List.mem_append.1 hv with hv | hv
      · exact h.big v (List.mem_of_mem_take hv)
      · simp at hv; subst hv; exact h1
    · intro v hv
      rcases List.mem_append.1 hv with hv | hv
      · exact h.ok v (List.mem_of_mem_take hv)
      · simp at hv; subst hv; exact h2
    · intro v hv
      rcases List.mem_append.1 hv with hv | hv
      · exact h.srt v (List.mem_of_mem_take hv)
      · simp at hv; subst hv; exact h3
  unfold nextE
  unfold errE at he
  split
  · rename_i h1
    rw [if_pos h1] at he
    by_cases hw : wrongT [e.t] ≠ 0
    · rw [if_pos hw] at he; exact absurd he hw
    rw [if_neg hw] at he
    have hw' : wrongT [e.t] = 0 := by omega
    have hl : s.now.length ≠ 1024 := by
      intro hl
      rw [if_pos hl] at he
      cases he
    refine push _ ?_ ?_ (ins_sorted (h.srt _ hn))
    · rw [ins_len]
      have := h.big _ hn
      omega
    · intro t ht
      rcases ins_mem ht with ht | rfl
      · exact h.ok _ hn t ht
      · exact wrong_one_ok.1 hw'
  · rename_i h1
    rw [if_neg h1] at he
    split
    · rename_i h2
      refine push _ ?_ (fun t ht => h.ok _ hn t (erase_mem ht)) ((h.srt _ hn).sublist (List.eraseIdx_sublist _ _))
      have := List.length_eraseIdx_le s.now e.n.toNat
      have := h.big _ hn
      omega
    · rename_i h2
      rw [if_neg h2] at he
      split
      · have ha := h.at_
        exact ⟨by simp only; omega, by have := h.many; simp only; omega, h.big, h.ok, h.srt⟩
      · rename_i h3
        rw [if_neg h3] at he
        have ha := h.at_
        by_cases h4 : e.do_ = 4
        · rw [if_pos h4] at he
          have : s.at_ + 1 ≠ s.vs.length := by
            intro hh
            rw [if_pos hh] at he
            cases he
          exact ⟨by simp only; omega, by have := h.many; simp only; omega, h.big, h.ok, h.srt⟩
        · rw [if_neg h4] at he
          cases he

theorem err_kind {s : Ver} {e : Ed} (he : errE s e = 0) : e.do_ = 1 ∨ e.do_ = 2 ∨ e.do_ = 3 ∨ e.do_ = 4 := by
  unfold errE at he
  by_cases h1 : e.do_ = 1
  · exact .inl h1
  by_cases h2 : e.do_ = 2
  · exact .inr (.inl h2)
  by_cases h3 : e.do_ = 3
  · exact .inr (.inr (.inl h3))
  by_cases h4 : e.do_ = 4
  · exact .inr (.inr (.inr h4))
  rw [if_neg h1, if_neg h2, if_neg h3, if_neg h4] at he
  cases he

/-- A disk, and its power. -/
structure Dk where
  words : List Int
  left : Int
deriving DecidableEq

/-- One word is put. -/
def putD (d : Dk) (i : Nat) (x : Int) : Dk × Bool :=
  if d.left = 0 then (d, false) else (⟨d.words.set i x, if 0 < d.left then d.left - 1 else d.left⟩, true)

theorem put_len (d : Dk) (i : Nat) (x : Int) : (putD d i x).1.words.length = d.words.length := by
  unfold putD
  split <;> simp

/-- Words i .. of a record, as long as there is power. -/
def putsD (d : Dk) (at_ : Nat) : List Int → Dk × Bool
  | [] => (d, true)
  | x :: r => let (d', ok) := putD d at_ x; if ok = true then putsD d' (at_ + 1) r else (d', false)

theorem puts_len (l : List Int) : ∀ (d : Dk) (at_ : Nat), (putsD d at_ l).1.words.length = d.words.length := by
  induction l with
  | nil => intro d a; rfl
  | cons x l ih =>
    intro d a
    unfold putsD
    have h := put_len d a x
    cases hp : putD d a x with
    | mk d' ok =>
      rw [hp] at h
      simp only
      split
      · rw [ih]; exact h
      · exact h

/-- A record is put: nought first, its mark last. -/
def putRec (d : Dk) (at_ : Nat) (e : Ed) : Dk × Bool :=
  let (d1, ok) := putsD d at_ (0 :: (recW e).tail)
  if ok = true then putD d1 at_ 1 else (d1, false)

theorem rec_len (d : Dk) (at_ : Nat) (e : Ed) : (putRec d at_ e).1.words.length = d.words.length := by
  unfold putRec
  have h := puts_len (0 :: (recW e).tail) d at_
  cases hp : putsD d at_ (0 :: (recW e).tail) with
  | mk d' ok =>
    rw [hp] at h
    simp only
    split
    · rw [put_len]; exact h
    · exact h

/-- A take. -/
structure Tk where
  s : Ver
  edits : Nat
  broken : Bool

/-- The edit that lies at a place. -/
def edAt (ws : List Int) (p : Nat) : Ed := ⟨ws.getD (p + 1) 0, ws.getD (p + 2) 0, ⟨ws.getD (p + 3) 0, ws.getD (p + 4) 0, ws.getD (p + 5) 0, ws.getD (p + 6) 0, ws.getD (p + 7) 0⟩⟩
/-- Is a whole record there that can be done? -/
def goodAt (ws : List Int) (s : Ver) (p : Nat) : Bool := decide (ws.getD p 0 = 1) && decide (edAt ws p = plainE (edAt ws p)) && decide (errE s (edAt ws p) = 0)

/-- What lies on a disk, from record k on. -/
def openFrom (ws : List Int) : Nat → Nat → Ver → Ver × Nat
  | 0, k, s => (s, k)
  | f + 1, k, s => if k * 8 + 8 ≤ ws.length ∧ k < 1024 ∧ goodAt ws s (k * 8) = true then openFrom ws f (k + 1) (nextE s (edAt ws (k * 8))) else (s, k)
def openT (ws : List Int) : Tk := let (s, k) := openFrom ws 1024 0 ver0; ⟨s, k, false⟩

theorem open_good (ws : List Int) : ∀ (f k : Nat) (s : Ver), GoodV s k → GoodV (openFrom ws f k s).1 (openFrom ws f k s).2
  | 0, k, s, h => h
  | f + 1, k, s, h => by
    unfold openFrom
    split
    · rename_i hc
      refine open_good ws f (k + 1) _ (next_good h ?_)
      have := hc.2.2
      unfold goodAt at this
      simp only [Bool.and_eq_true, decide_eq_true_eq] at this
      exact this.2
    · exact h
theorem open_edits (ws : List Int) : ∀ (f k : Nat) (s : Ver), k ≤ 1024 → (openFrom ws f k s).2 ≤ 1024 ∧ ((openFrom ws f k s).2 = k ∨ (openFrom ws f k s).2 * 8 ≤ ws.length)
  | 0, k, s, h => ⟨h, .inl rfl⟩
  | f + 1, k, s, h => by
    unfold openFrom
    split
    · rename_i hc
      obtain ⟨h1, h2⟩ := open_edits ws f (k + 1) (nextE s (edAt ws (k * 8))) (by omega)
      refine ⟨h1, .inr ?_⟩
      rcases h2 with h2 | h2
      · rw [h2]; omega
      · exact h2
    · exact ⟨h, .inl rfl⟩

/-- What holds of a take at all times. -/
structure GoodT (t : Tk) : Prop where
  s : GoodV t.s t.edits
  edits : t.edits ≤ 1024

theorem openT_good (ws : List Int) : GoodT (openT ws) := by
  unfold openT
  exact ⟨open_good ws 1024 0 ver0 good0, (open_edits ws 1024 0 ver0 (by decide)).1⟩

/-- An edit is done: the take, the disk, what was answered. -/
def doT (t : Tk) (d : Dk) (e0 : Ed) : Tk × Dk × Int :=
  if t.broken = true then (t, d, 9)
  else
    let e := plainE e0
    if errE t.s e ≠ 0 then (t, d, errE t.s e)
    else if t.edits = 1024 ∨ d.words.length < t.edits * 8 + 8 then (t, d, 4)
    else
      let (d', ok) := putRec d (t.edits * 8) e
      if ok = true then (⟨nextE t.s e, t.edits + 1, false⟩, d', 0) else (⟨t.s, t.edits, true⟩, d', 11)

theorem do_good {t : Tk} (h : GoodT t) (d : Dk) (e : Ed) : GoodT (doT t d e).1 ∧ (doT t d e).2.1.words.length = d.words.length := by
  unfold doT
  split
  · exact ⟨h, rfl⟩
  · simp only
    split
    · exact ⟨h, rfl⟩
    · rename_i he
      have he' : errE t.s (plainE e) = 0 := by omega
      split
      · exact ⟨h, rfl⟩
      · rename_i hr
        have hl := rec_len d (t.edits * 8) (plainE e)
        cases hp : putRec d (t.edits * 8) (plainE e) with
        | mk d' ok =>
          rw [hp] at hl
          simp only
          have hed := h.edits
          split
          · exact ⟨⟨next_good h.s he', by simp only; omega⟩, hl⟩
          · exact ⟨⟨h.s, h.edits⟩, hl⟩

/-- What a step answers. -/
structure Tn where
  err : Int
  terr : Int
  ts : List Tone
deriving DecidableEq
structure Stp where
  open_ : Bool
  e : Ed
  power : Int
  poke : Int
  word : Int

def tonesT (t : Tk) : Tn → Tn := fun x => if t.broken = true then ⟨x.err, 9, []⟩ else ⟨x.err, 0, t.s.now⟩

/-- One step. -/
def stepK (t : Tk) (d : Dk) (p : Stp) : Tk × Dk × Tn :=
  let d1 : Dk := ⟨d.words, if p.power ≠ 0 then IntKind.i64.wrap (p.power - 1) else d.left⟩
  let d2 : Dk := if 0 < p.poke ∧ p.poke ≤ (d1.words.length : Int) then ⟨d1.words.set (p.poke - 1).toNat p.word, d1.left⟩ else d1
  let t1 := if p.open_ = true then openT d2.words else t
  let (t2, d3, x) := if p.e.do_ ≠ 0 then doT t1 d2 p.e else (t1, d2, 0)
  (t2, d3, tonesT t2 ⟨x, 0, []⟩)

/-- All steps. -/
def runK (t : Tk) (d : Dk) : List Stp → List Tn × Dk
  | [] => ([], d)
  | p :: r => let (t', d', x) := stepK t d p; let (xs, d'') := runK t' d' r; (x :: xs, d'')
end Go.Proofs.Ytdnmimfichijgaa.KTk
