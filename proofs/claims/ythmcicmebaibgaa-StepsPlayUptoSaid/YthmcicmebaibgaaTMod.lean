/- Sections: what is computed, in plain Lean. -/
import Derived.Test.YthmcicmebaibgaaWMod
namespace Go.Proofs.Ythmcicmebaibgaa.TMod
open Go Go.Proofs.Ythmcicmebaibgaa.WMod
set_option linter.unusedVariables false

/-- Sections that stand side by side: the first one (Times, Long, Events, Kids), and the rest. -/
inductive For where
  | nil
  | cons (times long : Int) (evs : List Ev) (kids rest : For)

namespace For
def len : For → Nat
  | nil => 0
  | cons _ _ _ _ r => r.len + 1
def size : For → Nat
  | nil => 0
  | cons _ _ _ k r => k.size + r.size + 1
def drop : Nat → For → For
  | 0, f => f
  | _ + 1, nil => nil
  | n + 1, cons _ _ _ _ r => drop n r

theorem drop_nil (n : Nat) : drop n nil = nil := by cases n <;> rfl
theorem size_drop : ∀ (n : Nat) (f : For), (drop n f).size ≤ f.size
  | 0, f => Nat.le_refl _
  | _ + 1, nil => Nat.le_refl _
  | n + 1, cons t l e k r => by
    have := size_drop n r
    show (drop n r).size ≤ k.size + r.size + 1
    omega
theorem len_drop : ∀ (n : Nat) (f : For), (drop n f).len = f.len - n
  | 0, f => rfl
  | _ + 1, nil => by simp [drop, len]
  | n + 1, cons t l e k r => by
    show (drop n r).len = r.len + 1 - (n + 1)
    rw [len_drop n r]
    omega
theorem drop_succ : ∀ (n : Nat) (f : For) {t l e k r}, drop n f = cons t l e k r → drop (n + 1) f = r
  | 0, f, _, _, _, _, _, h => by subst h; rfl
  | _ + 1, nil, _, _, _, _, _, h => by cases h
  | n + 1, cons t l e k r, _, _, _, _, _, h => drop_succ n r h
/-- .. below its length there is one. -/
theorem drop_cons {f : For} {n : Nat} (h : n < f.len) : ∃ t l e k r, drop n f = cons t l e k r := by
  cases hd : drop n f with
  | nil =>
    have := len_drop n f
    rw [hd] at this
    simp only [len] at this
    omega
  | cons t l e k r => exact ⟨t, l, e, k, r, rfl⟩
theorem drop_end {f : For} : drop f.len f = nil := by
  cases hd : drop f.len f with
  | nil => rfl
  | cons t l e k r =>
    have := len_drop f.len f
    rw [hd] at this
    simp only [len] at this
    omega
theorem len_zero {f : For} (h : f.len = 0) : f = nil := by
  cases f with
  | nil => rfl
  | cons => simp [len] at h
theorem size_kids {f : For} {n : Nat} {t l e k r} (h : drop n f = cons t l e k r) : k.size < f.size := by
  have := size_drop n f
  rw [h] at this
  simp only [size] at this
  omega
end For

def total : Int := 1125899906842624

/-- How long all is that is played of them. -/
def dur : For → Int
  | .nil => 0
  | .cons t l _ k r => t * (l + dur k) + dur r

def lateB (l : Int) (evs : List Ev) : Bool := evs.any fun e => decide (l ≤ e.at_)

/-- What is long: from so many sections on, so much ahead: how long, how many sections were met, what is wrong. -/
def lng (lv : Nat) : For → Int → Int → Int × Int × Int
  | .nil, seen, all => (all, seen, 0)
  | .cons t l evs k r, seen, all =>
    if 256 < seen + 1 then (0, seen + 1, 5)
    else if t < 0 ∨ 65536 < t ∨ l < 0 ∨ 65536 < l then (0, seen + 1, 3)
    else if wrong evs ≠ 0 then (0, seen + 1, wrong evs)
    else if lateB l evs = true then (0, seen + 1, 8)
    else
      let q := if 32 < lv + 1 ∧ 0 < k.len then (0, seen + 1, 4) else lng (lv + 1) k (seen + 1) 0
      if q.2.2 ≠ 0 then (0, q.2.1, q.2.2)
      else if total < all + t * (l + q.1) then (0, q.2.1, 4)
      else lng lv r q.2.1 (all + t * (l + q.1))

def top (lv : Nat) (f : For) (seen : Int) : Int × Int × Int := if 32 < lv ∧ 0 < f.len then (0, seen, 4) else lng lv f seen 0
def longV (f : For) : Int := (top 1 f 0).1
def longE (f : For) : Int := (top 1 f 0).2.2

/-- Each section is as it should be; no more is asked of them. -/
def Fine : For → Prop
  | .nil => True
  | .cons t l evs k r => (0 ≤ t ∧ t ≤ 65536) ∧ (0 ≤ l ∧ l ≤ 65536) ∧ wrong evs = 0 ∧ lateB l evs = false ∧ Fine k ∧ Fine r ∧ (0 ≤ dur k ∧ dur k ≤ total) ∧ 0 ≤ dur r

theorem lng_fine (lv : Nat) : ∀ (f : For) (lv : Nat) (seen all : Int), 0 ≤ all → all ≤ total → (lng lv f seen all).2.2 = 0 → Fine f ∧ (lng lv f seen all).1 = all + dur f ∧ all + dur f ≤ total ∧ 0 ≤ dur f
  | .nil, lv, seen, all, h0, h1, _ => by
    refine ⟨trivial, ?_, ?_, ?_⟩ <;> simp [lng, dur] <;> omega
  | .cons t l evs k r, lv, seen, all, h0, h1, h => by
    unfold lng at h ⊢
    by_cases c1 : 256 < seen + 1
    · rw [if_pos c1] at h; cases h
    rw [if_neg c1] at h ⊢
    by_cases c2 : t < 0 ∨ 65536 < t ∨ l < 0 ∨ 65536 < l
    · rw [if_pos c2] at h; cases h
    rw [if_neg c2] at h ⊢
    by_cases c3 : wrong evs ≠ 0
    · rw [if_pos c3] at h; exact absurd h c3
    rw [if_neg c3] at h ⊢
    by_cases c4 : lateB l evs = true
    · rw [if_pos c4] at h; cases h
    rw [if_neg c4] at h ⊢
    simp only at h ⊢
    by_cases c5 : 32 < lv + 1 ∧ 0 < k.len
    · rw [if_pos c5] at h; cases h
    rw [if_neg c5] at h ⊢
    by_cases c6 : (lng (lv + 1) k (seen + 1) 0).2.2 ≠ 0
    · rw [if_pos c6] at h; exact absurd h c6
    rw [if_neg c6] at h ⊢
    obtain ⟨g1, g2, g3, g4⟩ := lng_fine lv k (lv + 1) (seen + 1) 0 (by omega) (by unfold total; omega) (by omega)
    rw [g2, Int.zero_add] at h ⊢
    by_cases c7 : total < all + t * (l + dur k)
    · rw [if_pos c7] at h; cases h
    rw [if_neg c7] at h ⊢
    have hm : 0 ≤ t * (l + dur k) := Int.mul_nonneg (by omega) (by omega)
    obtain ⟨f1, f2, f3, f4⟩ := lng_fine lv r lv _ _ (by omega) (by omega) h
    refine ⟨⟨⟨by omega, by omega⟩, ⟨by omega, by omega⟩, by simpa using c3, by simpa using c4, g1, f1, ⟨g4, by omega⟩, f4⟩, ?_, ?_, ?_⟩
    · rw [f2]; simp only [dur]; omega
    · simp only [dur]; omega
    · simp only [dur]; omega

/-- Each section is met once. -/
theorem lng_size : ∀ (f : For) (lv : Nat) (seen all : Int), (lng lv f seen all).2.2 = 0 → (lng lv f seen all).2.1 = seen + f.size
  | .nil, lv, seen, all, _ => by simp [lng, For.size]
  | .cons t l evs k r, lv, seen, all, h => by
    unfold lng at h ⊢
    by_cases c1 : 256 < seen + 1
    · rw [if_pos c1] at h; cases h
    rw [if_neg c1] at h ⊢
    by_cases c2 : t < 0 ∨ 65536 < t ∨ l < 0 ∨ 65536 < l
    · rw [if_pos c2] at h; cases h
    rw [if_neg c2] at h ⊢
    by_cases c3 : wrong evs ≠ 0
    · rw [if_pos c3] at h; exact absurd h c3
    rw [if_neg c3] at h ⊢
    by_cases c4 : lateB l evs = true
    · rw [if_pos c4] at h; cases h
    rw [if_neg c4] at h ⊢
    simp only at h ⊢
    by_cases c5 : 32 < lv + 1 ∧ 0 < k.len
    · rw [if_pos c5] at h; cases h
    rw [if_neg c5] at h ⊢
    by_cases c6 : (lng (lv + 1) k (seen + 1) 0).2.2 ≠ 0
    · rw [if_pos c6] at h; exact absurd h c6
    rw [if_neg c6] at h ⊢
    have g := lng_size k (lv + 1) (seen + 1) 0 (by omega)
    by_cases c7 : total < all + t * (l + (lng (lv + 1) k (seen + 1) 0).1)
    · rw [if_pos c7] at h; cases h
    rw [if_neg c7] at h ⊢
    rw [lng_size r lv _ _ h, g]
    simp only [For.size]
    omega

theorem len_size : ∀ f : For, f.len ≤ f.size
  | .nil => Nat.le_refl _
  | .cons t l e k r => by have := len_size r; simp only [For.len, For.size]; omega

/-- What is fine of them is fine of the n-th one. -/
theorem fine_drop : ∀ (n : Nat) (f : For), Fine f → Fine (f.drop n)
  | 0, f, h => h
  | _ + 1, .nil, h => trivial
  | n + 1, .cons t l e k r, h => fine_drop n r h.2.2.2.2.2.1
theorem dur_nonneg {f : For} (h : Fine f) : 0 ≤ dur f := by
  cases f with
  | nil => simp [dur]
  | cons t l evs k r =>
    obtain ⟨⟨t0, _⟩, ⟨l0, _⟩, _, _, _, _, ⟨dk, _⟩, dr⟩ := h
    have hm : 0 ≤ t * (l + dur k) := Int.mul_nonneg t0 (by omega)
    simp only [dur]
    omega

/-! ### what happens -/

def shift (at_ : Int) (e : Ev) : Ev := { e with at_ := e.at_ + at_ }

/-- One time of a section, at a tick. -/
def playF : For → Int → List Ev
  | .nil, _ => []
  | .cons t l evs k r, a => ((List.range t.toNat).flatMap fun j : Nat => evs.map (shift (a + j * (l + dur k))) ++ playF k (a + j * (l + dur k) + l)) ++ playF r (a + t * (l + dur k))

def inW (fr to : Int) (e : Ev) : Bool := decide (fr ≤ e.at_) && decide (e.at_ < to)
def win (fr to : Int) (l : List Ev) : List Ev := l.filter (inW fr to)

theorem win_append (fr to : Int) (a b : List Ev) : win fr to (a ++ b) = win fr to a ++ win fr to b := List.filter_append ..

/-- Events in order, at or behind a tick and ahead of another one. -/
def Within (a b : Int) (l : List Ev) : Prop := l.Pairwise (fun x y => x.at_ ≤ y.at_) ∧ ∀ e ∈ l, a ≤ e.at_ ∧ e.at_ < b

theorem within_append {a b c : Int} {x y : List Ev} (hab : a ≤ b) (hbc : b ≤ c) (hx : Within a b x) (hy : Within b c y) : Within a c (x ++ y) := by
  refine ⟨List.pairwise_append.2 ⟨hx.1, hy.1, fun u hu v hv => ?_⟩, fun e he => ?_⟩
  · have h1 := hx.2 u hu
    have h2 := hy.2 v hv
    omega
  · rcases List.mem_append.1 he with h | h
    · have := hx.2 e h; omega
    · have := hy.2 e h; omega
theorem within_nil (a b : Int) : Within a b [] := ⟨List.Pairwise.nil, fun e he => by cases he⟩

/-- Events that nothing is wrong with stand in order. -/
theorem wrongL_order : ∀ (l : List Ev) (last : Int), wrongL last l = 0 → l.Pairwise (fun x y => x.at_ ≤ y.at_) ∧ ∀ e ∈ l, last ≤ e.at_
  | [], _, _ => ⟨List.Pairwise.nil, fun e he => by cases he⟩
  | e :: r, last, h => by
    unfold wrongL at h
    split at h
    · rename_i he
      obtain ⟨h1, h2⟩ := wrongL_order r e.at_ h
      have hl : last ≤ e.at_ := by
        unfold wrongE at he
        split at he
        · cases he
        · split at he
          · cases he
          · split at he
            · cases he
            · omega
      refine ⟨List.pairwise_cons.2 ⟨fun x hx => h2 x hx, h1⟩, fun x hx => ?_⟩
      rcases List.mem_cons.1 hx with rfl | hx
      · exact hl
      · have := h2 x hx; omega
    · rename_i he; exact absurd h he

theorem wrong_order {l : List Ev} (h : wrong l = 0) : l.Pairwise (fun x y => x.at_ ≤ y.at_) ∧ ∀ e ∈ l, 0 ≤ e.at_ := by
  unfold wrong at h
  split at h
  · cases h
  · exact wrongL_order l 0 h

theorem shift_within {evs : List Ev} {l : Int} (hw : wrong evs = 0) (hl : lateB l evs = false) (a : Int) : Within a (a + l) (evs.map (shift a)) := by
  obtain ⟨h1, h2⟩ := wrong_order hw
  refine ⟨List.pairwise_map.2 (h1.imp fun h => ?_), fun e he => ?_⟩
  · simp only [shift]; omega
  · obtain ⟨x, hx, rfl⟩ := List.mem_map.1 he
    have h3 := h2 x hx
    have h4 : ¬ l ≤ x.at_ := by
      have := List.any_eq_false.1 hl x hx
      simpa using this
    simp only [shift]
    omega

theorem rep_within {P : Int → List Ev} {o : Int} (ho : 0 ≤ o) (hP : ∀ a, Within a (a + o) (P a)) (a : Int) : ∀ n : Nat, Within a (a + n * o) ((List.range n).flatMap fun j : Nat => P (a + j * o))
  | 0 => by
    refine ⟨List.Pairwise.nil, fun e he => by cases he⟩
  | n + 1 => by
    rw [List.range_succ, List.flatMap_append]
    have ih := rep_within ho hP a n
    have h := hP (a + n * o)
    have e : a + ((n + 1 : Nat) : Int) * o = a + n * o + o := by rw [Int.natCast_add, Int.add_mul]; simp; omega
    rw [e]
    have hn : 0 ≤ (n : Int) * o := Int.mul_nonneg (by omega) ho
    refine within_append (by omega) (by omega) ih ?_
    simpa using h

theorem play_within : ∀ (f : For) (a : Int), Fine f → Within a (a + dur f) (playF f a)
  | .nil, a, _ => by
    simp only [playF, dur]
    exact within_nil _ _
  | .cons t l evs k r, a, h => by
    obtain ⟨⟨t0, _⟩, ⟨l0, _⟩, hw, hl, hk, hr, ⟨dk, _⟩, dr⟩ := h
    have ho : 0 ≤ l + dur k := by omega
    have hone : ∀ b, Within b (b + (l + dur k)) (evs.map (shift b) ++ playF k (b + l)) := fun b => by
      have h2 := play_within k (b + l) hk
      rw [Int.add_assoc] at h2
      exact within_append (by omega) (by omega) (shift_within hw hl b) h2
    have h1 := rep_within (P := fun b => evs.map (shift b) ++ playF k (b + l)) ho hone a t.toNat
    rw [Int.toNat_of_nonneg t0] at h1
    have h2 := play_within r (a + t * (l + dur k)) hr
    have hm : 0 ≤ t * (l + dur k) := Int.mul_nonneg t0 ho
    simp only [playF, dur]
    have h3 := within_append (by omega) (by omega) h1 h2
    rw [Int.add_assoc] at h3
    exact h3

/-- Nothing happens ahead of a tick, or from it on. -/
theorem win_ahead {a b fr to : Int} {l : List Ev} (h : Within a b l) (hb : b ≤ fr) : win fr to l = [] := by
  unfold win inW
  rw [List.filter_eq_nil_iff]
  intro e he
  have := h.2 e he
  simp; omega
theorem win_behind {a b fr to : Int} {l : List Ev} (h : Within a b l) (ha : to ≤ a) : win fr to l = [] := by
  unfold win inW
  rw [List.filter_eq_nil_iff]
  intro e he
  have := h.2 e he
  simp; omega

/-- Two windows, one behind the other. -/
theorem win_split {l : List Ev} (h : l.Pairwise (fun x y => x.at_ ≤ y.at_)) {a b c : Int} (hab : a ≤ b) (hbc : b ≤ c) : win a b l ++ win b c l = win a c l := by
  induction l with
  | nil => rfl
  | cons e r ih =>
    obtain ⟨h1, h2⟩ := List.pairwise_cons.1 h
    have ih := ih h2
    unfold win at *
    by_cases c1 : inW a b e = true
    · have c2 : inW b c e = false := by unfold inW at *; simp at *; omega
      have c3 : inW a c e = true := by unfold inW at *; simp at *; omega
      rw [List.filter_cons_of_pos c1, List.filter_cons_of_neg (by rw [c2]; simp), List.filter_cons_of_pos c3, List.cons_append, ih]
    · by_cases c2 : inW b c e = true
      · have c3 : inW a c e = true := by unfold inW at *; simp at *; omega
        have hz : r.filter (inW a b) = [] := by
          rw [List.filter_eq_nil_iff]
          intro x hx
          have := h1 x hx
          unfold inW at *
          simp at *
          omega
        rw [List.filter_cons_of_neg c1, List.filter_cons_of_pos c2, List.filter_cons_of_pos c3, hz, List.nil_append]
        rw [hz, List.nil_append] at ih
        rw [ih]
      · have c3 : ¬ inW a c e = true := by unfold inW at *; simp at *; omega
        rw [List.filter_cons_of_neg c1, List.filter_cons_of_neg c2, List.filter_cons_of_neg c3, ih]

end Go.Proofs.Ythmcicmebaibgaa.TMod
