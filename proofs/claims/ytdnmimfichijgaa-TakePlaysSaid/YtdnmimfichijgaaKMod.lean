/- Tones, edits, takes: what is computed, in plain Lean. -/
import Derived.Test.YtdnmimfichijgaaOpn
namespace Go.Proofs.Ytdnmimfichijgaa.KMod
open Go
set_option linter.unusedVariables false

structure Tone where
  at_ : Int
  long : Int
  lt : Int
  al : Int
  oc : Int
deriving DecidableEq

def Tone.cells (t : Tone) : List Value := [.int .i64 t.at_, .int .i64 t.long, .int .i64 t.lt, .int .i64 t.al, .int .i64 t.oc]

def rightB (t : Tone) : Bool := decide (0 ≤ t.lt) && decide (t.lt < 7) && decide (-3 ≤ t.al) && decide (t.al ≤ 3) && decide (-12 ≤ t.oc) && decide (t.oc ≤ 12)
def rangeP (t : Tone) : Prop := 0 ≤ t.at_ ∧ 1 ≤ t.long ∧ t.at_ ≤ 1048576 ∧ t.long ≤ 1048576
instance (t : Tone) : Decidable (rangeP t) := by unfold rangeP; exact inferInstance
/-- A tone that may stand in a line. -/
def okT (t : Tone) : Prop := rangeP t ∧ rightB t = true
instance (t : Tone) : Decidable (okT t) := by unfold okT; exact inferInstance

/-- Does a tone stand ahead of another one? -/
def lessB (a b : Tone) : Bool :=
  if a.at_ ≠ b.at_ then decide (a.at_ < b.at_) else if a.long ≠ b.long then decide (a.long < b.long) else if a.oc ≠ b.oc then decide (a.oc < b.oc) else if a.lt ≠ b.lt then decide (a.lt < b.lt) else decide (a.al < b.al)

/-- The order, as a number. -/
def ordT (a b : Tone) : Int :=
  if a.at_ ≠ b.at_ then a.at_ - b.at_ else if a.long ≠ b.long then a.long - b.long else if a.oc ≠ b.oc then a.oc - b.oc else if a.lt ≠ b.lt then a.lt - b.lt else if a.al ≠ b.al then a.al - b.al else 0

theorem less_key {a b : Tone} : lessB a b = true ↔ (a.at_ < b.at_ ∨ (a.at_ = b.at_ ∧ (a.long < b.long ∨ (a.long = b.long ∧ (a.oc < b.oc ∨ (a.oc = b.oc ∧ (a.lt < b.lt ∨ (a.lt = b.lt ∧ a.al < b.al)))))))) := by
  unfold lessB
  split
  · rw [decide_eq_true_eq]; omega
  · split
    · rw [decide_eq_true_eq]; omega
    · split
      · rw [decide_eq_true_eq]; omega
      · split
        · rw [decide_eq_true_eq]; omega
        · rw [decide_eq_true_eq]; omega
theorem ord_pos {a b : Tone} : 0 < ordT a b ↔ (b.at_ < a.at_ ∨ (b.at_ = a.at_ ∧ (b.long < a.long ∨ (b.long = a.long ∧ (b.oc < a.oc ∨ (b.oc = a.oc ∧ (b.lt < a.lt ∨ (b.lt = a.lt ∧ b.al < a.al)))))))) := by
  unfold ordT
  split
  · omega
  · split
    · omega
    · split
      · omega
      · split
        · omega
        · split
          · omega
          · omega
theorem ord_less (a b : Tone) : decide (0 < ordT a b) = lessB b a := by
  rw [Bool.eq_iff_iff, decide_eq_true_eq, less_key, ord_pos]

theorem less_trans {a b c : Tone} (h : lessB a b = true) (k : lessB b c = true) : lessB a c = true := by
  rw [less_key] at *
  omega
theorem less_not {a b c : Tone} (h : lessB a c = true) (k : lessB b c = false) : lessB a b = true := by
  have k' : ¬ lessB b c = true := by rw [k]; simp
  rw [less_key] at *
  omega
theorem less_asymm {a b : Tone} (h : lessB a b = true) : lessB b a = false := by
  cases k : lessB b a with
  | false => rfl
  | true => rw [less_key] at *; omega

/-- What is wrong with a line: behind the one that was seen. -/
def wrongTL : Option Tone → List Tone → Int
  | _, [] => 0
  | p, t :: r => if ¬ rangeP t then 3 else if rightB t = false then 2 else if (p.elim false fun q => lessB t q) = true then 8 else wrongTL (some t) r
def wrongT (l : List Tone) : Int := if 1024 < l.length then 5 else wrongTL none l

theorem wrong_one (t : Tone) : wrongT [t] = if ¬ rangeP t then 3 else if rightB t = false then 2 else 0 := by
  unfold wrongT
  rw [if_neg (by simp)]
  simp [wrongTL]
theorem wrong_one_ok {t : Tone} : wrongT [t] = 0 ↔ okT t := by
  rw [wrong_one]
  unfold okT
  by_cases h1 : rangeP t
  · rw [if_neg (by simp [h1])]
    cases h2 : rightB t
    · simp [h1]
    · simp [h1]
  · rw [if_pos h1]
    simp [h1]
theorem wrong_two {a b : Tone} (ha : okT a) (hb : okT b) : wrongT [a, b] = if lessB b a = true then 8 else 0 := by
  unfold wrongT
  rw [if_neg (by simp)]
  simp only [wrongTL]
  rw [if_neg (by simp [ha.1]), if_neg (by simp [ha.2]), if_neg (by simp), if_neg (by simp [hb.1]), if_neg (by simp [hb.2])]
  rfl

/-! ### lines in order -/

/-- Where a tone comes: from behind. -/
def insK (v : List Tone) (t : Tone) : Nat := (v.reverse.dropWhile (fun x => lessB t x)).length
def insT (v : List Tone) (t : Tone) : List Tone := v.take (insK v t) ++ t :: v.drop (insK v t)
theorem insK_le (v : List Tone) (t : Tone) : insK v t ≤ v.length := by
  unfold insK
  have := (List.dropWhile_suffix (fun x => lessB t x) (l := v.reverse)).length_le
  simpa using this

def Sorted (v : List Tone) : Prop := v.Pairwise (fun a b => lessB b a = false)

/-- .. from the front. -/
def insF (v : List Tone) (t : Tone) : Nat := (v.takeWhile (fun x => !lessB t x)).length

theorem ins_snoc (v : List Tone) (x t : Tone) : insK (v ++ [x]) t = if lessB t x = true then insK v t else v.length + 1 := by
  unfold insK
  rw [List.reverse_append, List.reverse_singleton, List.singleton_append, List.dropWhile_cons]
  split
  · rfl
  · simp

theorem takeWhile_self {p : Tone → Bool} : ∀ {l : List Tone}, l.takeWhile p = l ↔ ∀ x ∈ l, p x = true
  | [] => by simp
  | x :: l => by
    have ih := takeWhile_self (p := p) (l := l)
    by_cases h : p x = true
    · rw [List.takeWhile_cons_of_pos h]
      simp [h, ih]
    · rw [List.takeWhile_cons_of_neg h]
      simp [h]

theorem insK_rev (t : Tone) : ∀ (l : List Tone), Sorted l.reverse → insK l.reverse t = insF l.reverse t := by
  intro l
  induction l with
  | nil => intro _; rfl
  | cons x l ih =>
    intro hs
    rw [List.reverse_cons] at hs ⊢
    obtain ⟨v, hvv⟩ : ∃ v, l.reverse = v := ⟨_, rfl⟩
    rw [hvv] at hs ih ⊢
    have hv : Sorted v := (List.pairwise_append.1 hs).1
    have hx : ∀ a ∈ v, lessB x a = false := fun a ha => (List.pairwise_append.1 hs).2.2 a ha x (by simp)
    rw [ins_snoc]
    unfold insF
    split
    · rename_i h
      rw [ih hv]
      unfold insF
      by_cases hall : ∀ a ∈ v, (!lessB t a) = true
      · rw [List.takeWhile_append_of_pos hall, List.takeWhile_cons_of_neg (by simp [h])]
        have : v.takeWhile (fun x => !lessB t x) = v := by
          rw [takeWhile_self]
          exact hall
        rw [this]; simp
      · have : (v ++ [x]).takeWhile (fun x => !lessB t x) = v.takeWhile (fun x => !lessB t x) := by
          rw [List.takeWhile_append]
          split
          · rename_i hl
            exfalso
            apply hall
            intro a ha
            have := takeWhile_self.1 (List.IsPrefix.eq_of_length (List.takeWhile_prefix _) hl)
            exact this a ha
          · rfl
        rw [this]
    · rename_i h
      have hxf : lessB t x = false := by simpa using h
      have hall : ∀ a ∈ v ++ [x], (!lessB t a) = true := by
        intro a ha
        rcases List.mem_append.1 ha with ha | ha
        · cases hta : lessB t a with
          | false => rfl
          | true =>
            have := less_not hta (b := x) (hx a ha)
            rw [hxf] at this
            cases this
        · simp at ha; subst ha; rw [hxf]; rfl
      have : (v ++ [x]).takeWhile (fun x => !lessB t x) = v ++ [x] := takeWhile_self.2 hall
      rw [this]; simp

theorem insK_eq (v : List Tone) (t : Tone) (h : Sorted v) : insK v t = insF v t := by
  have := insK_rev t v.reverse (by rw [List.reverse_reverse]; exact h)
  rw [List.reverse_reverse] at this
  exact this

theorem sorted_take {v : List Tone} (h : Sorted v) (n : Nat) : Sorted (v.take n) := h.sublist (List.take_sublist n v)
theorem sorted_drop {v : List Tone} (h : Sorted v) (n : Nat) : Sorted (v.drop n) := h.sublist (List.drop_sublist n v)

end Go.Proofs.Ytdnmimfichijgaa.KMod
