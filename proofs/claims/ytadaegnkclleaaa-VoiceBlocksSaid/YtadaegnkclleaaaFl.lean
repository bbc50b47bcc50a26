/- Floats as words: NaNs as one, zeros as one; what addition, subtraction, multiplication and turning the sign do to them. Plain laws, no program in sight. -/
import GoSem.Core.Float
import GoSem.Op.Unary
namespace Go.Proofs.Ytadaegnkclleaaa.Fl
open Ieee

abbrev D : Format := Ieee.double

/-- Is the word no number? -/
def nan (x : Nat) : Bool := (D.read x).isNaN

/-- The one NaN that stands for all. -/
def qn : Nat := 0x7ff8000000000001

/-- A word, all NaNs taken as one. -/
def cn (x : Nat) : Nat := if nan x then qn else x

/-- An operation's answer, all NaNs taken as one. -/
def cno : Option Nat → Nat
  | some r => cn r
  | none => qn

def fadd (x y : Nat) : Nat := cno (D.add x y)
def fsub (x y : Nat) : Nat := cno (D.sub x y)
def fmul (x y : Nat) : Nat := cno (D.mul x y)

theorem nan_qn : nan qn = true := by decide +kernel

theorem cn_qn : cn qn = qn := by unfold cn; rw [nan_qn]; rfl

theorem cn_cn (x : Nat) : cn (cn x) = cn x := by
  unfold cn
  by_cases h : nan x = true
  · simp [h]
  · simp [h]

theorem cn_of_nan {x : Nat} (h : nan x = true) : cn x = qn := by unfold cn; rw [h]; rfl
theorem cn_of_not {x : Nat} (h : nan x = false) : cn x = x := by unfold cn; rw [h]; rfl

theorem read_nan {x : Nat} (h : nan x = true) : ∃ s f, D.read x = .nan s f := by
  unfold nan at h
  cases hd : D.read x with
  | nan s f => exact ⟨s, f, rfl⟩
  | number s m e => rw [hd] at h; simp [Datum.isNaN] at h
  | infinity s => rw [hd] at h; simp [Datum.isNaN] at h

theorem sum_nan_left (s : Bool) (f : Nat) (d : Datum) : Datum.sum (.nan s f) d = none := by cases d <;> rfl
theorem sum_nan_right (s : Bool) (f : Nat) (d : Datum) : Datum.sum d (.nan s f) = none := by cases d <;> rfl
theorem product_nan_left (s : Bool) (f : Nat) (d : Datum) : Datum.product (.nan s f) d = none := by cases d <;> rfl
theorem product_nan_right (s : Bool) (f : Nat) (d : Datum) : Datum.product d (.nan s f) = none := by cases d <;> rfl

theorem add_nan_left {x y : Nat} (h : nan x = true) : D.add x y = none := by
  obtain ⟨s, f, e⟩ := read_nan h
  simp [Format.add, e, sum_nan_left]
theorem add_nan_right {x y : Nat} (h : nan y = true) : D.add x y = none := by
  obtain ⟨s, f, e⟩ := read_nan h
  simp [Format.add, e, sum_nan_right]
theorem sub_nan_left {x y : Nat} (h : nan x = true) : D.sub x y = none := by
  obtain ⟨s, f, e⟩ := read_nan h
  simp [Format.sub, e, sum_nan_left]
theorem sub_nan_right {x y : Nat} (h : nan y = true) : D.sub x y = none := by
  obtain ⟨s, f, e⟩ := read_nan h
  simp [Format.sub, e, Datum.opposite, sum_nan_right]
theorem mul_nan_left {x y : Nat} (h : nan x = true) : D.mul x y = none := by
  obtain ⟨s, f, e⟩ := read_nan h
  simp [Format.mul, e, product_nan_left]
theorem mul_nan_right {x y : Nat} (h : nan y = true) : D.mul x y = none := by
  obtain ⟨s, f, e⟩ := read_nan h
  simp [Format.mul, e, product_nan_right]

theorem cn_cases (x : Nat) : (nan x = true ∧ cn x = qn) ∨ (nan x = false ∧ cn x = x) := by
  cases h : nan x with
  | true => exact .inl ⟨rfl, cn_of_nan h⟩
  | false => exact .inr ⟨rfl, cn_of_not h⟩

theorem add_cn (x y : Nat) : D.add (cn x) (cn y) = D.add x y := by
  rcases cn_cases x with ⟨hx, ex⟩ | ⟨hx, ex⟩ <;> rcases cn_cases y with ⟨hy, ey⟩ | ⟨hy, ey⟩ <;> rw [ex, ey]
  · rw [add_nan_left nan_qn, add_nan_left hx]
  · rw [add_nan_left nan_qn, add_nan_left hx]
  · rw [add_nan_right nan_qn, add_nan_right hy]
theorem sub_cn (x y : Nat) : D.sub (cn x) (cn y) = D.sub x y := by
  rcases cn_cases x with ⟨hx, ex⟩ | ⟨hx, ex⟩ <;> rcases cn_cases y with ⟨hy, ey⟩ | ⟨hy, ey⟩ <;> rw [ex, ey]
  · rw [sub_nan_left nan_qn, sub_nan_left hx]
  · rw [sub_nan_left nan_qn, sub_nan_left hx]
  · rw [sub_nan_right nan_qn, sub_nan_right hy]
theorem mul_cn (x y : Nat) : D.mul (cn x) (cn y) = D.mul x y := by
  rcases cn_cases x with ⟨hx, ex⟩ | ⟨hx, ex⟩ <;> rcases cn_cases y with ⟨hy, ey⟩ | ⟨hy, ey⟩ <;> rw [ex, ey]
  · rw [mul_nan_left nan_qn, mul_nan_left hx]
  · rw [mul_nan_left nan_qn, mul_nan_left hx]
  · rw [mul_nan_right nan_qn, mul_nan_right hy]

theorem fadd_cn (x y : Nat) : fadd (cn x) (cn y) = fadd x y := by unfold fadd; rw [add_cn]
theorem fsub_cn (x y : Nat) : fsub (cn x) (cn y) = fsub x y := by unfold fsub; rw [sub_cn]
theorem fmul_cn (x y : Nat) : fmul (cn x) (cn y) = fmul x y := by unfold fmul; rw [mul_cn]

theorem cn_cno (o : Option Nat) : cn (cno o) = cno o := by
  cases o with
  | none => exact cn_qn
  | some r => exact cn_cn r
theorem cn_fadd (x y : Nat) : cn (fadd x y) = fadd x y := cn_cno _
theorem cn_fsub (x y : Nat) : cn (fsub x y) = fsub x y := cn_cno _
theorem cn_fmul (x y : Nat) : cn (fmul x y) = fmul x y := cn_cno _

theorem fadd_eq {x y x' y' : Nat} (hx : cn x = cn x') (hy : cn y = cn y') : fadd x y = fadd x' y' := by
  rw [← fadd_cn x y, ← fadd_cn x' y', hx, hy]
theorem fsub_eq {x y x' y' : Nat} (hx : cn x = cn x') (hy : cn y = cn y') : fsub x y = fsub x' y' := by
  rw [← fsub_cn x y, ← fsub_cn x' y', hx, hy]
theorem fmul_eq {x y x' y' : Nat} (hx : cn x = cn x') (hy : cn y = cn y') : fmul x y = fmul x' y' := by
  rw [← fmul_cn x y, ← fmul_cn x' y', hx, hy]

/-! zeros as one -/

/-- A datum, its sign dropped where it is nought, all NaNs as one. -/
def z : Datum → Datum
  | .number s m p => .number (if m = 0 then false else s) m p
  | .nan _ _ => .nan false 1
  | .infinity s => .infinity s

/-- What a word stands for, so. -/
def zr (x : Nat) : Datum := z (D.read x)

def zo : Option Nat → Datum
  | some r => zr r
  | none => .nan false 1

theorem zr_qn : zr qn = .nan false 1 := by decide +kernel

theorem zr_nan {x : Nat} (h : nan x = true) : zr x = .nan false 1 := by
  obtain ⟨s, f, e⟩ := read_nan h
  unfold zr
  rw [e]
  rfl

theorem zr_cn (x : Nat) : zr (cn x) = zr x := by
  rcases cn_cases x with ⟨h, e⟩ | ⟨h, e⟩
  · rw [e, zr_qn, zr_nan h]
  · rw [e]

theorem zr_cno (o : Option Nat) : zr (cno o) = zo o := by
  cases o with
  | none => exact zr_qn
  | some r => exact zr_cn r

theorem z_number_zero (s : Bool) (p : Int) : z (.number s 0 p) = .number false 0 p := rfl

/-- A nought that is written reads as nought; all else is written as it is. -/
theorem zr_write {d d' : Datum} (h : z d = z d') (hn : d.isNaN = false) (hn' : d'.isNaN = false) : zr (D.write d) = zr (D.write d') := by
  cases d with
  | nan s f => cases hn
  | infinity s =>
    cases d' with
    | nan s f => cases hn'
    | infinity s' => simp only [z, Datum.infinity.injEq] at h; rw [h]
    | number s' m' p' => simp [z] at h
  | number s m p =>
    cases d' with
    | nan s f => cases hn'
    | infinity s' => simp [z] at h
    | number s' m' p' =>
      simp only [z, Datum.number.injEq] at h
      obtain ⟨h1, rfl, rfl⟩ := h
      by_cases hm : m = 0
      · subst hm
        unfold Format.write Format.nearest
        simp only [if_true]
        cases s <;> cases s' <;> decide +kernel
      · simp only [hm, if_false] at h1
        rw [h1]

theorem zo_write {o o' : Option Datum} (h : o.map z = o'.map z) (hn : ∀ d, o = some d → d.isNaN = false) (hn' : ∀ d, o' = some d → d.isNaN = false) : zo (o.map D.write) = zo (o'.map D.write) := by
  cases o with
  | none => cases o' with
    | none => rfl
    | some d => simp at h
  | some d => cases o' with
    | none => simp at h
    | some d' =>
      simp only [Option.map_some, Option.some.injEq] at h
      exact zr_write h (hn _ rfl) (hn' _ rfl)

theorem sum_not_nan {a b d : Datum} (h : a.sum b = some d) : d.isNaN = false := by
  unfold Datum.sum at h
  split at h
  · cases h
  · cases h
  · split at h
    · cases h; rfl
    · cases h
  · cases h; rfl
  · cases h; rfl
  · cases h; rfl

theorem product_not_nan {a b d : Datum} (h : a.product b = some d) : d.isNaN = false := by
  unfold Datum.product at h
  split at h
  · cases h
  · cases h
  · cases h; rfl
  · split at h
    · cases h
    · cases h; rfl
  · split at h
    · cases h
    · cases h; rfl
  · cases h; rfl

theorem signed_zero (s : Bool) (k : Nat) : signed s 0 k = 0 := by cases s <;> simp [signed]

theorem sum_z (a b : Datum) : (a.sum b).map z = ((z a).sum (z b)).map z := by
  cases a with
  | nan s f => cases b <;> rfl
  | infinity s => cases b <;> simp [z, Datum.sum]
  | number s m p => cases b with
    | nan t f => rfl
    | infinity t => rfl
    | number t n q =>
      simp only [z, Datum.sum, Option.map_some, Option.some.injEq, Datum.number.injEq, and_true]
      have e1 : ∀ k, signed (if m = 0 then false else s) m k = signed s m k := fun k => by
        by_cases hm : m = 0
        · subst hm; rw [signed_zero, signed_zero]
        · rw [if_neg hm]
      have e2 : ∀ k, signed (if n = 0 then false else t) n k = signed t n k := fun k => by
        by_cases hm : n = 0
        · subst hm; rw [signed_zero, signed_zero]
        · rw [if_neg hm]
      rw [e1, e2]
      generalize signed s m (p - min p q).toNat + signed t n (q - min p q).toNat = T
      by_cases hT : T = 0
      · subst hT; simp
      · simp [hT]

theorem product_z (a b : Datum) : (a.product b).map z = ((z a).product (z b)).map z := by
  cases a with
  | nan s f => cases b <;> rfl
  | infinity s => cases b with
    | nan t f => rfl
    | infinity t => rfl
    | number t n q =>
      simp only [z, Datum.product]
      by_cases hn : n = 0
      · subst hn; simp
      · simp [hn]
  | number s m p => cases b with
    | nan t f => rfl
    | infinity t =>
      simp only [z, Datum.product]
      by_cases hn : m = 0
      · subst hn; simp
      · simp [hn]
    | number t n q =>
      simp only [z, Datum.product, Option.map_some, Option.some.injEq, Datum.number.injEq, and_true]
      by_cases hm : m = 0
      · subst hm; simp
      · by_cases hn : n = 0
        · subst hn; simp
        · simp [hm, hn]

theorem z_opposite (a : Datum) : z (z a).opposite = z a.opposite := by
  cases a with
  | nan s f => rfl
  | infinity s => rfl
  | number s m p =>
    simp only [z, Datum.opposite]
    by_cases hm : m = 0 <;> simp [hm]

theorem zadd_eq {x y x' y' : Nat} (hx : zr x = zr x') (hy : zr y = zr y') : zr (fadd x y) = zr (fadd x' y') := by
  unfold fadd
  rw [zr_cno, zr_cno]
  refine zo_write ?_ (fun d h => sum_not_nan h) (fun d h => sum_not_nan h)
  rw [sum_z, sum_z (D.read x') (D.read y')]
  unfold zr at hx hy
  rw [hx, hy]

theorem zsub_eq {x y x' y' : Nat} (hx : zr x = zr x') (hy : zr y = zr y') : zr (fsub x y) = zr (fsub x' y') := by
  unfold fsub
  rw [zr_cno, zr_cno]
  refine zo_write ?_ (fun d h => sum_not_nan h) (fun d h => sum_not_nan h)
  rw [sum_z, sum_z (D.read x')]
  unfold zr at hx hy
  rw [← z_opposite, hy, z_opposite, hx]

theorem zmul_eq {x y x' y' : Nat} (hx : zr x = zr x') (hy : zr y = zr y') : zr (fmul x y) = zr (fmul x' y') := by
  unfold fmul
  rw [zr_cno, zr_cno]
  refine zo_write ?_ (fun d h => product_not_nan h) (fun d h => product_not_nan h)
  rw [product_z, product_z (D.read x') (D.read y')]
  unfold zr at hx hy
  rw [hx, hy]

/-! the sign turned round -/

def fneg (x : Nat) : Nat := x ^^^ 2 ^ 63

theorem read_neg (x : Nat) : D.read (fneg x) = (D.read x).opposite := by
  have hs : D.signWeight = 2 ^ 63 := by decide
  have h1 : fneg x % 2 ^ 63 = x % 2 ^ 63 := by
    unfold fneg
    rw [Nat.xor_mod_two_pow, Nat.mod_self, Nat.xor_zero]
  have h2 : (fneg x / 2 ^ 63 % 2 == 1) = !(x / 2 ^ 63 % 2 == 1) := by
    unfold fneg
    rw [Nat.xor_div_two_pow, Nat.div_self (by decide)]
    have h3 : ((x / 2 ^ 63) ^^^ 1) % 2 = ((x / 2 ^ 63) % 2) ^^^ 1 := by
      have := @Nat.xor_mod_two_pow (x / 2 ^ 63) 1 1
      simpa using this
    rw [h3]
    rcases Nat.mod_two_eq_zero_or_one (x / 2 ^ 63) with h | h <;> rw [h] <;> decide
  unfold Format.read
  simp only [hs, h1, h2]
  split
  · rfl
  · split
    · rfl
    · split <;> rfl

theorem read_neg_z (x : Nat) : zr (fneg x) = z (zr x).opposite := by
  unfold zr
  rw [read_neg, z_opposite]

theorem zneg_eq {x y : Nat} (h : zr x = zr y) : zr (fneg x) = zr (fneg y) := by
  rw [read_neg_z, read_neg_z, h]

theorem zr_write_opposite {d : Datum} (hn : d.isNaN = false) : zr (D.write d.opposite) = zr (fneg (D.write d)) := by
  rw [read_neg_z]
  cases d with
  | nan s f => cases hn
  | infinity s => cases s <;> decide +kernel
  | number s m p =>
    by_cases hm : m = 0
    · subst hm
      unfold Datum.opposite Format.write Format.nearest
      simp only [if_true]
      cases s <;> decide +kernel
    · have key : D.write (.number (!s) m p) = fneg (D.write (.number s m p)) := by
        unfold Format.write Format.nearest
        simp only [hm, if_false]
        have hc : ∀ s' n d, Toward.even.cut s' n d = Toward.even.cut false n d := fun _ _ _ => rfl
        rw [hc, hc s]
        generalize hr : min _ D.infRung = r
        have hlt : r < 2 ^ 63 := by
          have hi : D.infRung < 2 ^ 63 := by decide
          omega
        have hs : D.signWeight = 2 ^ 63 := by decide
        have hx : r ^^^ 2 ^ 63 = 2 ^ 63 + r := by
          have := Nat.two_pow_add_eq_or_of_lt hlt 1
          rw [Nat.mul_one] at this
          rw [this]
          apply Nat.eq_of_testBit_eq
          intro i
          rw [Nat.testBit_xor, Nat.testBit_or, Nat.testBit_two_pow]
          by_cases h : 63 = i
          · subst h; rw [Nat.testBit_lt_two_pow hlt]; rfl
          · simp [h]
        unfold Format.word fneg
        cases s
        · simp only [Bool.not_false, if_true, Bool.false_eq_true, if_false, hs]
          exact hx.symm
        · simp only [Bool.not_true, if_true, Bool.false_eq_true, if_false, hs]
          rw [← hx, Nat.xor_assoc, Nat.xor_self, Nat.xor_zero]
      show zr (D.write (.number (!s) m p)) = _
      rw [key, read_neg_z]

theorem zo_write_opposite {o : Option Datum} (hn : ∀ d, o = some d → d.isNaN = false) : zo ((o.map Datum.opposite).map D.write) = z (zo (o.map D.write)).opposite := by
  cases o with
  | none => rfl
  | some d =>
    show zr (D.write d.opposite) = z (zr (D.write d)).opposite
    rw [zr_write_opposite (hn d rfl), read_neg_z]

theorem map_not_nan {o o' : Option Datum} (h : o.map z = o'.map z) (hn : ∀ d, o = some d → d.isNaN = false) : ∀ d, o' = some d → d.isNaN = false := by
  intro d hd
  subst hd
  cases o with
  | none => simp at h
  | some e =>
    have := hn e rfl
    simp only [Option.map_some, Option.some.injEq] at h
    cases e <;> cases d <;> simp_all [z, Datum.isNaN]

theorem sum_opposite (a b : Datum) : (a.opposite.sum b.opposite).map z = ((a.sum b).map Datum.opposite).map z := by
  cases a with
  | nan s f => cases b <;> rfl
  | infinity s => cases b with
    | nan t f => rfl
    | number t n q => rfl
    | infinity t => cases s <;> cases t <;> rfl
  | number s m p => cases b with
    | nan t f => rfl
    | infinity t => rfl
    | number t n q =>
      simp only [Datum.opposite, Datum.sum, Option.map_some, Option.some.injEq, z, Datum.number.injEq, and_true]
      have e : ∀ (s : Bool) (m k : Nat), signed (!s) m k = - signed s m k := fun s m k => by cases s <;> simp [signed]
      rw [e, e]
      generalize signed s m (p - min p q).toNat = S
      generalize signed t n (q - min p q).toNat = T
      have ha : (-S + -T).natAbs = (S + T).natAbs := by omega
      refine ⟨?_, ha⟩
      rw [ha]
      by_cases h0 : S + T = 0
      · simp [h0]
      · have h1 : (S + T).natAbs ≠ 0 := by omega
        have h2 : -S + -T ≠ 0 := by omega
        rw [if_neg h1, if_neg h1, if_neg h2, if_neg h0]
        have : decide (-S + -T < 0) = !decide (S + T < 0) := by
          rw [Bool.eq_iff_iff]; simp; omega
        exact this

theorem product_opposite (a b : Datum) : a.product b.opposite = (a.product b).map Datum.opposite := by
  cases a with
  | nan s f => cases b <;> rfl
  | infinity s => cases b with
    | nan t f => rfl
    | infinity t => cases s <;> cases t <;> rfl
    | number t n q =>
      simp only [Datum.opposite, Datum.product]
      by_cases h : n = 0
      · simp [h]
      · cases s <;> cases t <;> simp [h, Datum.opposite]
  | number s m p => cases b with
    | nan t f => rfl
    | infinity t =>
      simp only [Datum.opposite, Datum.product]
      by_cases h : m = 0
      · simp [h]
      · cases s <;> cases t <;> simp [h, Datum.opposite]
    | number t n q => cases s <;> cases t <;> rfl

theorem map_opposite_not_nan {o : Option Datum} (hn : ∀ d, o = some d → d.isNaN = false) : ∀ d, o.map Datum.opposite = some d → d.isNaN = false := by
  intro d hd
  cases o with
  | none => simp at hd
  | some e =>
    have := hn e rfl
    simp only [Option.map_some, Option.some.injEq] at hd
    subst hd
    cases e <;> simp_all [Datum.opposite, Datum.isNaN]

/-- What adding makes of two that are turned round. -/
theorem zadd_neg (x y : Nat) : zr (fadd (fneg x) (fneg y)) = z (zr (fadd x y)).opposite := by
  unfold fadd
  rw [zr_cno, zr_cno]
  unfold Format.add
  rw [read_neg, read_neg, ← zo_write_opposite (fun d h => sum_not_nan h)]
  exact zo_write (sum_opposite _ _) (fun d h => sum_not_nan h) (map_opposite_not_nan fun d h => sum_not_nan h)

theorem zsub_neg (x y : Nat) : zr (fsub (fneg x) (fneg y)) = z (zr (fsub x y)).opposite := by
  unfold fsub
  rw [zr_cno, zr_cno]
  unfold Format.sub
  rw [read_neg, read_neg, ← zo_write_opposite (fun d h => sum_not_nan h)]
  exact zo_write (sum_opposite _ _) (fun d h => sum_not_nan h) (map_opposite_not_nan fun d h => sum_not_nan h)

theorem zmul_neg (x y : Nat) : zr (fmul x (fneg y)) = z (zr (fmul x y)).opposite := by
  unfold fmul
  rw [zr_cno, zr_cno]
  unfold Format.mul
  rw [read_neg, product_opposite, ← zo_write_opposite (fun d h => product_not_nan h)]

/-! held against each other -/

theorem order_self_of {x y : Nat} (h : zr x = zr y) (hn : nan x = false) : D.order x y = some .eq := by
  unfold Format.order
  unfold zr at h
  unfold nan at hn
  cases hx : D.read x with
  | nan s f => rw [hx] at hn; cases hn
  | infinity s =>
    rw [hx] at h
    cases hy : D.read y with
    | nan t g => rw [hy] at h; simp [z] at h
    | infinity t =>
      rw [hy] at h
      simp only [z, Datum.infinity.injEq] at h
      subst h
      cases s <;> rfl
    | number t n q => rw [hy] at h; simp [z] at h
  | number s m p =>
    rw [hx] at h
    cases hy : D.read y with
    | nan t g => rw [hy] at h; simp [z] at h
    | infinity t => rw [hy] at h; simp [z] at h
    | number t n q =>
      rw [hy] at h
      simp only [z, Datum.number.injEq] at h
      obtain ⟨h1, rfl, rfl⟩ := h
      have e : ∀ k, signed s m k = signed t m k := fun k => by
        by_cases hm : m = 0
        · subst hm; rw [signed_zero, signed_zero]
        · rw [if_neg hm, if_neg hm] at h1; rw [h1]
      simp only [Datum.order, e, Option.some.injEq]
      exact Int.compare_eq_eq.2 rfl

theorem order_nan_left {x y : Nat} (h : nan x = true) : D.order x y = none := by
  obtain ⟨s, f, e⟩ := read_nan h
  unfold Format.order
  rw [e]
  cases D.read y <;> rfl

theorem nan_of_zr {x y : Nat} (h : zr x = zr y) : nan x = nan y := by
  unfold zr at h
  unfold nan
  cases hx : D.read x <;> cases hy : D.read y <;> rw [hx, hy] at h <;> simp_all [z, Datum.isNaN]

/-- 'a == b, or both are no numbers': where both stand for the same but for the sign of nought. -/
def eqB (x y : Nat) : Bool := D.order x y == some .eq || (D.order x x != some .eq && D.order y y != some .eq)

theorem order_self {x : Nat} (h : nan x = false) : D.order x x = some .eq := order_self_of rfl h

theorem eqB_of {x y : Nat} (h : zr x = zr y) : eqB x y = true := by
  unfold eqB
  cases hn : nan x with
  | false => rw [order_self_of h hn]; rfl
  | true => rw [order_nan_left hn, order_nan_left hn, order_nan_left (nan_of_zr h ▸ hn)]; rfl

/-- The same bits, or both no numbers. -/
def likeB (x y : Nat) : Bool := x == y || (D.order x x != some .eq && D.order y y != some .eq)

theorem nan_iff (x : Nat) : (D.order x x != some .eq) = nan x := by
  cases h : nan x with
  | false => rw [order_self h]; rfl
  | true => rw [order_nan_left h]; rfl

theorem likeB_iff (x y : Nat) : likeB x y = decide (cn x = cn y) := by
  unfold likeB
  rw [nan_iff, nan_iff]
  rcases cn_cases x with ⟨hx, ex⟩ | ⟨hx, ex⟩ <;> rcases cn_cases y with ⟨hy, ey⟩ | ⟨hy, ey⟩ <;> rw [hx, hy, ex, ey]
  · simp
  · have : x ≠ y := fun e => by rw [e, hy] at hx; cases hx
    have h2 : qn ≠ y := fun e => by rw [← e, nan_qn] at hy; cases hy
    simp [this, h2]
  · have : x ≠ y := fun e => by rw [e, hy] at hx; cases hx
    have h2 : x ≠ qn := fun e => by rw [e, nan_qn] at hx; cases hx
    simp [this, h2]
  · rw [Bool.eq_iff_iff]; simp

end Go.Proofs.Ytadaegnkclleaaa.Fl
