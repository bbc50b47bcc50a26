/- A voice: what is computed, in plain Lean. -/
import Derived.Test.YtadaegnkclleaaaVShapes
namespace Go.Proofs.Ytadaegnkclleaaa.VMod
open Go Ieee Go.RowKit Go.Proofs.Ytadaegnkclleaaa.Rnd Go.Proofs.Ytadaegnkclleaaa.Flo Go.Proofs.Ytadaegnkclleaaa.Flc Go.Proofs.Ytadaegnkclleaaa.VTab Go.Proofs.Ytadaegnkclleaaa.VSine Go.Proofs.Ytadaegnkclleaaa.VSin Go.Proofs.Ytadaegnkclleaaa.VShape Go.Proofs.Ytadaegnkclleaaa.VStepF
set_option linter.unusedVariables false

structure Pt where
  shape : Int
  step : Nat
  gain : Nat
  att : Int
  dec : Int
  rel : Int
  sus : Int

/-- Where a voice stands. -/
structure St where
  phase : Nat
  time : Int
  off : Int
  from_ : Int

def Pt.cells (p : Pt) : List Value := [.int .i64 p.shape, .int .u32 p.step, .float .f64 p.gain, .int .i64 p.att, .int .i64 p.dec, .int .i64 p.rel, .int .i64 p.sus]
def St.cells (s : St) : List Value := [.int .u32 s.phase, .int .i64 s.time, .int .i64 s.off, .int .i64 s.from_]

def stageB (n : Int) : Bool := decide (0 ≤ n) && decide (n ≤ 16777216)
def gainB (g : Nat) : Bool := (D.order g 13920626448202203136 == some .gt || D.order g 13920626448202203136 == some .eq) && (D.order g 4697254411347427328 == some .lt || D.order g 4697254411347427328 == some .eq)
def wrongP (p : Pt) : Int :=
  if p.shape < 1 ∨ 4 < p.shape then 1
  else if gainB p.gain = false ∨ stageB p.att = false ∨ stageB p.dec = false ∨ stageB p.rel = false ∨ p.sus < 0 ∨ 1048576 < p.sus then 3 else 0

structure OkP (p : Pt) : Prop where
  shape : 1 ≤ p.shape ∧ p.shape ≤ 4
  gain : gainB p.gain = true
  att : 0 ≤ p.att ∧ p.att ≤ 16777216
  dec : 0 ≤ p.dec ∧ p.dec ≤ 16777216
  rel : 0 ≤ p.rel ∧ p.rel ≤ 16777216
  sus : 0 ≤ p.sus ∧ p.sus ≤ 1048576

theorem okP_of {p : Pt} (h : wrongP p = 0) : OkP p := by
  unfold wrongP at h
  split at h
  · cases h
  · split at h
    · cases h
    · rename_i h1 h2
      simp only [not_or] at h1 h2
      unfold stageB at h2
      simp only [Bool.and_eq_false_iff, decide_eq_false_iff_not, not_or] at h2
      obtain ⟨g, a, d, r, s1, s2⟩ := h2
      exact ⟨by omega, by simpa using g, by omega, by omega, by omega, by omega⟩

def levelZ (p : Pt) (s : St) : Int :=
  if p.rel ≤ s.off then 0
  else if 0 ≤ s.off then Int.tdiv (s.from_ * (p.rel - s.off)) p.rel
  else if s.time < p.att then Int.tdiv (1048576 * s.time) p.att
  else if s.time - p.att < p.dec then 1048576 - Int.tdiv ((1048576 - p.sus) * (s.time - p.att)) p.dec
  else p.sus

structure OkS (s : St) : Prop where
  phase : s.phase < 4294967296
  time : 0 ≤ s.time ∧ s.time ≤ 33554433
  off : -1 ≤ s.off ∧ s.off ≤ 16777217
  from_ : 0 ≤ s.from_ ∧ s.from_ ≤ 1048576

theorem tdiv_le {a b q : Int} (h0 : 0 ≤ a) (hb : 0 < b) (h : a ≤ q * b) : 0 ≤ Int.tdiv a b ∧ Int.tdiv a b ≤ q := by
  rw [Int.tdiv_eq_ediv_of_nonneg h0]
  exact ⟨Int.ediv_nonneg h0 (Int.le_of_lt hb), Int.ediv_le_of_le_mul hb h⟩

theorem level_le {p : Pt} {s : St} (hp : OkP p) (hs : OkS s) : 0 ≤ levelZ p s ∧ levelZ p s ≤ 1048576 := by
  obtain ⟨_, _, ⟨a0, a1⟩, ⟨d0, d1⟩, ⟨r0, r1⟩, s0, s1⟩ := hp
  obtain ⟨_, ⟨t0, t1⟩, ⟨o0, o1⟩, f0, f1⟩ := hs
  unfold levelZ
  split
  · omega
  · split
    · rename_i h1 h2
      refine tdiv_le (Int.mul_nonneg f0 (by omega)) (by omega) ?_
      exact Int.mul_le_mul f1 (by omega) (by omega) (by omega)
    · split
      · rename_i h1 h2 h3
        refine tdiv_le (by omega) (by omega) ?_
        exact Int.mul_le_mul_of_nonneg_left (by omega) (by omega)
      · split
        · rename_i h1 h2 h3 h4
          have := tdiv_le (a := (1048576 - p.sus) * (s.time - p.att)) (b := p.dec) (q := 1048576) (Int.mul_nonneg (by omega) (by omega)) (by omega) (Int.mul_le_mul (by omega) (by omega) (by omega) (by omega))
          omega
        · omega

def c20 : Nat := 4697254411347427328

/-- A sample. -/
def smp (p : Pt) (s : St) : Nat := (D.mul ((D.mul p.gain (shapeW p.shape s.phase)).getD 0) ((D.div (FloatKind.f64.nearest (levelZ p s)) c20).getD 0)).getD 0

def next (p : Pt) (s : St) : St :=
  ⟨(s.phase + p.step) % 4294967296, if s.time ≤ 33554432 then s.time + 1 else s.time, if 0 ≤ s.off ∧ s.off ≤ 16777216 then s.off + 1 else s.off, s.from_⟩

def offS (p : Pt) (s : St) : St := if s.off < 0 then ⟨s.phase, s.time, 0, levelZ p s⟩ else s

theorem next_ok {p : Pt} {s : St} (h : OkS s) : OkS (next p s) := by
  obtain ⟨h1, ⟨t0, t1⟩, ⟨o0, o1⟩, f⟩ := h
  unfold next
  refine ⟨Nat.mod_lt _ (by decide), ?_, ?_, f⟩
  · show 0 ≤ (if s.time ≤ 33554432 then s.time + 1 else s.time) ∧ (if s.time ≤ 33554432 then s.time + 1 else s.time) ≤ 33554433
    split <;> omega
  · show -1 ≤ (if 0 ≤ s.off ∧ s.off ≤ 16777216 then s.off + 1 else s.off) ∧ (if 0 ≤ s.off ∧ s.off ≤ 16777216 then s.off + 1 else s.off) ≤ 16777217
    split <;> omega

theorem off_ok {p : Pt} {s : St} (hp : OkP p) (h : OkS s) : OkS (offS p s) := by
  unfold offS
  split
  · exact ⟨h.phase, h.time, ⟨by show (-1 : Int) ≤ 0; decide, by show (0 : Int) ≤ 16777217; decide⟩, level_le hp h⟩
  · exact h

/-- So many samples, and where the voice stands behind them. -/
def play (p : Pt) : Nat → St → List Nat × St
  | 0, s => ([], s)
  | n + 1, s => (smp p s :: (play p n (next p s)).1, (play p n (next p s)).2)

def after (p : Pt) : Nat → St → St
  | 0, s => s
  | n + 1, s => after p n (next p s)

theorem play_snd (p : Pt) (n : Nat) (s : St) : (play p n s).2 = after p n s := by
  induction n generalizing s with
  | zero => rfl
  | succ n ih => exact ih _

theorem play_len (p : Pt) (n : Nat) (s : St) : (play p n s).1.length = n := by
  induction n generalizing s with
  | zero => rfl
  | succ n ih => simp [play, ih]

theorem after_succ (p : Pt) (n : Nat) (s : St) : after p (n + 1) s = next p (after p n s) := by
  induction n generalizing s with
  | zero => rfl
  | succ n ih => exact ih _

theorem after_ok {p : Pt} {s : St} (h : OkS s) (n : Nat) : OkS (after p n s) := by
  induction n with
  | zero => exact h
  | succ n ih => rw [after_succ]; exact next_ok ih

theorem play_get (p : Pt) (n : Nat) (s : St) (i : Nat) (hi : i < n) : (play p n s).1[i]? = some (smp p (after p i s)) := by
  induction n generalizing s i with
  | zero => omega
  | succ n ih =>
    cases i with
    | zero => rfl
    | succ i => exact ih _ i (by omega)

/-! ### no sample is a NaN -/

theorem sine4 (ph : Nat) (hp : ph < 4294967296) : rg (sineW ph) ≤ ffour := by
  obtain ⟨d, f, p, s, h1, h2, h3, h4, h5⟩ := between (a := atW (ph / 16777216 % 256)) (b := atW ((ph / 16777216 + 1) % 256)) (m := ph % 16777216) (at_le (by omega)) (at_le (by omega)) (by omega)
  rw [sine_of h1 h2 h3 h4]
  exact h5

theorem shape4 (k : Int) (ph : Nat) (hp : ph < 4294967296) : rg (shapeW k ph) ≤ ffour := by
  have h14 : fone ≤ ffour := by decide
  unfold shapeW
  split
  · exact sine4 ph hp
  · split
    · obtain ⟨q, h1, h2⟩ := saw_some ph hp; rw [h1]; exact Nat.le_trans h2 h14
    · split
      · split
        · decide
        · decide
      · split
        · obtain ⟨q, h1, h2⟩ := tri_some ph hp; rw [h1]; exact Nat.le_trans h2 h14
        · decide

theorem V_c20 : V (rg c20) = 1048576 * 2 ^ bias ∧ rg c20 < top ∧ sg c20 = false := by decide +kernel
theorem V_m20 : V (rg 13920626448202203136) = 1048576 * 2 ^ bias ∧ rg 13920626448202203136 < top ∧ sg 13920626448202203136 = true := by decide +kernel

/-- A gain is within 2 ^ 20. -/
theorem gain_le {g : Nat} (h : gainB g = true) : rg g ≤ rg c20 := by
  unfold gainB at h
  simp only [Bool.and_eq_true, Bool.or_eq_true, beq_iff_eq] at h
  obtain ⟨h1, h2⟩ := h
  have c1 := V_c20
  have c2 := V_m20
  have hc20 : (4697254411347427328 : Nat) = c20 := rfl
  rw [hc20] at h2
  rcases Nat.lt_trichotomy (rg g) top with ht | ht | ht
  · have o1 := order_sv ht c2.2.1
    have o2 := order_sv ht c1.2.1
    have e1 : sv 13920626448202203136 = -(V (rg c20) : Int) := by
      unfold sv signed; rw [c2.2.2, c2.1, c1.1]; simp
    have e2 : sv c20 = (V (rg c20) : Int) := sv_pos (.inl c1.2.2)
    change FloatKind.f64.format.order g 13920626448202203136 = _ ∨ FloatKind.f64.format.order g 13920626448202203136 = _ at h1
    change FloatKind.f64.format.order g c20 = _ ∨ FloatKind.f64.format.order g c20 = _ at h2
    rw [o1, e1] at h1
    rw [o2, e2] at h2
    have k1 : -(V (rg c20) : Int) ≤ sv g := by
      rcases Int.lt_or_le (sv g) (-(V (rg c20) : Int)) with h | h
      · rw [cmp_lt h] at h1; simp at h1
      · exact h
    have k2 : sv g ≤ (V (rg c20) : Int) := by
      rcases Int.lt_or_le (V (rg c20) : Int) (sv g) with h | h
      · rw [cmp_gt h] at h2; simp at h2
      · exact h
    refine V_le.1 ?_
    unfold sv signed at k1 k2
    cases sg g <;> simp at k1 k2 <;> omega
  · exfalso
    have hrd := read_inf ht
    obtain ⟨m, e, r1, r2⟩ := read_fin c1.2.1
    obtain ⟨m', e', r3, r4⟩ := read_fin c2.2.1
    change Datum.order (D.read g) (D.read 13920626448202203136) = _ ∨ Datum.order (D.read g) (D.read 13920626448202203136) = _ at h1
    change Datum.order (D.read g) (D.read c20) = _ ∨ Datum.order (D.read g) (D.read c20) = _ at h2
    rw [hrd, r3] at h1
    rw [hrd, r1] at h2
    generalize sg g = b at h1 h2
    cases b <;> simp [Datum.order] at h1 h2
  · exfalso
    obtain ⟨s, f, hrd⟩ := read_nan ht
    change Datum.order (D.read g) (D.read c20) = _ ∨ Datum.order (D.read g) (D.read c20) = _ at h2
    rw [hrd] at h2
    simp [Datum.order] at h2

def f24 : Nat := 4706261610602168320
theorem V_f24 : V f24 = 4194304 * 2 ^ bias ∧ f24 < top := by decide +kernel

theorem arg4 (B a b : Nat) (ha : a ≤ 1048576 * B) (hb : b ≤ 4 * B) : a * b ≤ 4194304 * B * B := by
  have h := Nat.mul_le_mul ha hb
  refine Nat.le_trans h (Nat.le_of_eq ?_)
  rw [show (4194304 : Nat) = 1048576 * 4 from rfl]
  generalize (1048576 : Nat) = c
  generalize (4 : Nat) = d
  ac_rfl

/-- What a sample is made of: its three operations, none a NaN. -/
theorem smp_some {p : Pt} {s : St} (hp : OkP p) (hs : OkS s) : ∃ y q z, D.mul p.gain (shapeW p.shape s.phase) = some y ∧ D.div (FloatKind.f64.nearest (levelZ p s)) c20 = some q ∧ D.mul y q = some z ∧ smp p s = z ∧ rg y ≤ f24 ∧ rg q ≤ fone ∧ rg z ≤ rg y := by
  have hg := gain_le hp.gain
  have hx := shape4 p.shape s.phase hs.phase
  have c1 := V_c20
  have t3 : ffour < top := by decide
  have tf := V_f24
  obtain ⟨y, y1, y2, _⟩ := mul_leE bias_is (x := p.gain) (y := shapeW p.shape s.phase) (r := f24) (by omega) (by omega) tf.2 (by
    rw [tf.1]
    refine arg4 _ _ _ ?_ ?_
    · rw [← c1.1]; exact V_le.2 hg
    · rw [← V_four]; exact V_le.2 hx)
  obtain ⟨l0, l1⟩ := level_le hp hs
  obtain ⟨q, q1, q2⟩ := whole_div (z := levelZ p s) (n := 1048576) (c := c20) (by omega) (by decide) ⟨c1.1, c1.2.1⟩ (by decide)
  have tone : fone < top := by decide
  obtain ⟨z, z1, z2, _⟩ := mul_leE bias_is (x := y) (y := q) (r := rg y) (by omega) (by omega) (by omega) (by
    have := V_le.2 q2
    rw [V_one] at this
    exact Nat.mul_le_mul_left _ this)
  refine ⟨y, q, z, y1, q1, z1, ?_, y2, q2, z2⟩
  unfold smp
  rw [y1, q1]
  simp only [Option.getD_some]
  rw [z1]
  rfl

end Go.Proofs.Ytadaegnkclleaaa.VMod
