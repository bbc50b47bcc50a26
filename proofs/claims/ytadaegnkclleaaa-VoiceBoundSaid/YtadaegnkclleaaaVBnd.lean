/- A wave stays within one; half a circle on a sine is the same with the other sign; no sample is louder than the gain. -/
import Derived.Test.YtadaegnkclleaaaVSing
import Derived.Test.YtadaegnkclleaaaFl
namespace Go.Proofs.Ytadaegnkclleaaa.VBnd
open Go Ieee Go.RowKit Go.Proofs.Ytadaegnkclleaaa.Rnd Go.Proofs.Ytadaegnkclleaaa.Flo Go.Proofs.Ytadaegnkclleaaa.Flc Go.Proofs.Ytadaegnkclleaaa.VTab Go.Proofs.Ytadaegnkclleaaa.VSine Go.Proofs.Ytadaegnkclleaaa.VSin Go.Proofs.Ytadaegnkclleaaa.VShape Go.Proofs.Ytadaegnkclleaaa.VStepF Go.Proofs.Ytadaegnkclleaaa.VMod
set_option linter.unusedVariables false

theorem sum_sv {s t : Bool} {m n e d r : Nat} (hr : r < top) (h : (signed s (m * 2 ^ e) 0 + signed t (n * 2 ^ d) 0).natAbs ≤ V r) :
    ∃ z u, Datum.sum (.number s m ((e : Int) - 1074)) (.number t n ((d : Int) - 1074)) = some u ∧ D.write u = z ∧ rg z ≤ r := by
  obtain ⟨b, hb⟩ : ∃ b : Nat, min ((e : Int) - 1074) ((d : Int) - 1074) = (b : Int) - 1074 := ⟨min e d, by omega⟩
  refine ⟨_, _, rfl, rfl, ?_⟩
  rw [hb, show ((e : Int) - 1074 - ((b : Int) - 1074)).toNat = e - b from by omega, show ((d : Int) - 1074 - ((b : Int) - 1074)).toNat = d - b from by omega, signed_shift s, signed_shift t]
  have hk : ((signed s (m * 2 ^ (e - b)) 0 + signed t (n * 2 ^ (d - b)) 0)).natAbs * 2 ^ b ≤ V r * 2 ^ 0 := by
    rw [abs_mul, Int.add_mul, signed_mul, signed_mul, Nat.mul_assoc, Nat.mul_assoc, ← Nat.pow_add, ← Nat.pow_add, show e - b + b = e from by omega, show d - b + b = d from by omega]
    rw [Nat.pow_zero, Nat.mul_one]
    exact h
  obtain ⟨q, h5, h6⟩ := write_le (if signed s (m * 2 ^ (e - b)) 0 + signed t (n * 2 ^ (d - b)) 0 = 0 then s && t else signed s (m * 2 ^ (e - b)) 0 + signed t (n * 2 ^ (d - b)) 0 < 0) _ ((b : Int) - 1074) (k := 0) (u := b) (by omega) hr hk
  rw [h5, rg_word _ (by omega)]
  exact h6

theorem add_sv {x y r : Nat} (hx : rg x < top) (hy : rg y < top) (hr : r < top) (h : (sv x + sv y).natAbs ≤ V r) : ∃ z, D.add x y = some z ∧ rg z ≤ r := by
  obtain ⟨m, e, h1, h2⟩ := read_fin hx
  obtain ⟨n, d, h3, h4⟩ := read_fin hy
  obtain ⟨z, u, h5, h6, h7⟩ := sum_sv (s := sg x) (t := sg y) (m := m) (n := n) (e := e) (d := d) hr (by rw [h2, h4]; exact h)
  exact ⟨z, by unfold Format.add; rw [h1, h3, h5]; simp [h6], h7⟩

/-- The table: from one to the next one stays within one. -/
def stepB (k : Nat) : Bool :=
  match D.sub (atW ((k + 1) % 256)) (atW (k % 256)) with
  | some d => decide (rg d < top) && decide ((sv (atW (k % 256)) + sv d).natAbs ≤ V fone)
  | none => false

theorem steps_ok : ∀ k : Fin 256, stepB k.val = true := by decide +kernel

theorem sine1 (ph : Nat) (hp : ph < 4294967296) : rg (sineW ph) ≤ fone := by
  have t1 : fone < top := by decide
  have hs := steps_ok ⟨ph / 16777216 % 256, by omega⟩
  simp only at hs
  unfold stepB at hs
  rw [show (ph / 16777216 % 256 + 1) % 256 = (ph / 16777216 + 1) % 256 from by omega, show ph / 16777216 % 256 % 256 = ph / 16777216 % 256 from by omega] at hs
  obtain ⟨d, f, p, s, h1, h2, h3, h4, _⟩ := between (a := atW (ph / 16777216 % 256)) (b := atW ((ph / 16777216 + 1) % 256)) (m := ph % 16777216) (at_le (by omega)) (at_le (by omega)) (by omega)
  rw [sine_of h1 h2 h3 h4]
  have ha := at_le (j := ph / 16777216 % 256) (by omega)
  rw [h1] at hs
  simp only [Bool.and_eq_true, decide_eq_true_eq] at hs
  obtain ⟨hd, hb⟩ := hs
  generalize atW (ph / 16777216 % 256) = a at *
  have hmi : (((ph % 16777216 : Nat) : Int)).natAbs = ph % 16777216 := by omega
  obtain ⟨r1, r2⟩ := rg_int ((ph % 16777216 : Nat) : Int) (by omega)
  rw [hmi] at r1
  obtain ⟨n1, n2⟩ := V_nr (n := ph % 16777216) (by omega)
  have hc := V_c24
  obtain ⟨f', h3', f1, f2⟩ := div_leE bias_is (x := FloatKind.f64.nearest ((ph % 16777216 : Nat) : Int)) (y := c24) (r := fone) (t := 0) (by rw [r1]; exact n2) hc.2 (by decide) t1 (by rw [V_one, Nat.pow_zero, Nat.one_mul]) (by
    rw [r1, n1, hc.1, Nat.pow_zero, Nat.one_mul]
    exact Nat.mul_le_mul_right _ (by omega))
  rw [h2] at h3'
  obtain rfl := Option.some.inj h3'
  have f3 : sg f = false := by
    rw [f2, r2, show sg c24 = false from by decide, decide_eq_false (by omega)]
    rfl
  have fv := V_le.2 f1
  rw [V_one] at fv
  obtain ⟨p', h5, p1, p2⟩ := mul_leE bias_is (x := d) (y := f) (r := rg d) hd (by omega) hd (Nat.mul_le_mul_left _ fv)
  rw [h3] at h5
  obtain rfl := Option.some.inj h5
  rw [f3, Bool.xor_false] at p2
  have pv := V_le.2 p1
  have av := V_le.2 ha
  obtain ⟨s', h6, s1⟩ := add_sv (x := a) (y := p) (r := fone) (by omega) (by omega) t1 (by
    unfold sv signed at hb ⊢
    rw [p2]
    generalize V (rg a) = A at *
    generalize V (rg d) = B at *
    generalize V (rg p) = C at *
    generalize V fone = F at *
    clear h1 h2 h3 h4 hc n1
    generalize sg a = u at *
    generalize sg d = v at *
    clear hmi
    cases u <;> cases v <;> simp at hb ⊢ <;> omega)
  rw [h4] at h6
  obtain rfl := Option.some.inj h6
  exact s1

theorem shape1 (k : Int) (ph : Nat) (hp : ph < 4294967296) : rg (shapeW k ph) ≤ fone := by
  unfold shapeW
  split
  · exact sine1 ph hp
  · split
    · obtain ⟨q, h1, h2⟩ := saw_some ph hp; rw [h1]; exact h2
    · split
      · split
        · decide
        · decide
      · split
        · obtain ⟨q, h1, h2⟩ := tri_some ph hp; rw [h1]; exact h2
        · decide

theorem sv_abs (x : Nat) : -(V (rg x) : Int) ≤ sv x ∧ sv x ≤ V (rg x) := by
  unfold sv signed
  cases sg x <;> simp <;> omega

theorem cmp_ge {a b : Int} (h : b ≤ a) : compare a b = .gt ∨ compare a b = .eq := by
  rcases Int.lt_or_le b a with h1 | h1
  · exact .inl (cmp_gt h1)
  · have : a = b := by omega
    subst this
    exact .inr (Int.compare_eq_eq.2 rfl)

theorem sg_neg (m : Nat) : sg (VSine.fneg m) = !sg m := by
  show (((m ^^^ 2 ^ 63) / 2 ^ 63) % 2 == 1) = !(m / 2 ^ 63 % 2 == 1)
  rw [show (m ^^^ 2 ^ 63) / 2 ^ 63 = m / 2 ^ 63 ^^^ 1 from by rw [← Nat.shiftRight_eq_div_pow, Nat.shiftRight_xor_distrib, ← Nat.shiftRight_eq_div_pow]; rfl]
  have : (m / 2 ^ 63 ^^^ 1) % 2 = (m / 2 ^ 63 % 2) ^^^ 1 := by
    have := Nat.xor_mod_two_pow (a := m / 2 ^ 63) (b := 1) (n := 1)
    simpa using this
  rw [this]
  rcases Nat.mod_two_eq_zero_or_one (m / 2 ^ 63) with e | e <;> rw [e] <;> rfl

/-- Between what is turned round and what is not. -/
theorem within_of {x m : Nat} (hm : rg m < top) (hs : sg m = false ∨ rg m = 0) (h : rg x ≤ rg m) :
    (FloatKind.f64.format.order x (VSine.fneg m) = some .gt ∨ FloatKind.f64.format.order x (VSine.fneg m) = some .eq) ∧ (FloatKind.f64.format.order x m = some .lt ∨ FloatKind.f64.format.order x m = some .eq) := by
  have hx : rg x < top := by omega
  have hv := V_le.2 h
  have h1 := sv_abs x
  have h2 := sv_pos hs
  have h3 : sv (VSine.fneg m) = -(V (rg m) : Int) := by
    have hsg := sg_neg m
    unfold sv signed
    rw [hsg, rg_neg]
    rcases hs with hs | hs
    · rw [hs]; simp
    · rw [hs, V_zero]; simp
  rw [order_sv hx (by rw [rg_neg]; exact hm), order_sv hx hm, h3, h2]
  refine ⟨?_, ?_⟩
  · rcases cmp_ge (a := sv x) (b := -(V (rg m) : Int)) (by omega) with e | e <;> rw [e] <;> simp
  · rcases cmp_le (a := sv x) (b := (V (rg m) : Int)) (by omega) with e | e <;> rw [e] <;> simp

theorem wave_within (k : Int) (ph : Nat) (hp : ph < 4294967296) :
    (FloatKind.f64.format.order (shapeW k ph) 13830554455654793216 = some .gt ∨ FloatKind.f64.format.order (shapeW k ph) 13830554455654793216 = some .eq) ∧ (FloatKind.f64.format.order (shapeW k ph) 4607182418800017408 = some .lt ∨ FloatKind.f64.format.order (shapeW k ph) 4607182418800017408 = some .eq) := by
  have h := within_of (x := shapeW k ph) (m := fone) (by decide) (.inl (by decide)) (shape1 k ph hp)
  rw [show VSine.fneg fone = 13830554455654793216 from by decide] at h
  exact h

theorem smp_within {p : Pt} {s : St} (hp : OkP p) (hs : OkS s) : rg (smp p s) ≤ rg p.gain := by
  obtain ⟨y, q, z, h1, h2, h3, h4, h5, h6, h7⟩ := smp_some hp hs
  rw [h4]
  refine Nat.le_trans h7 ?_
  have hg := gain_le hp.gain
  have c1 := V_c20
  have t1 : fone < top := by decide
  have hx := shape1 p.shape s.phase hs.phase
  obtain ⟨y', g1, g2, _⟩ := mul_leE bias_is (x := p.gain) (y := shapeW p.shape s.phase) (r := rg p.gain) (by omega) (by omega) (by omega) (by
    have := V_le.2 hx
    rw [V_one] at this
    exact Nat.mul_le_mul_left _ this)
  rw [h1] at g1
  obtain rfl := Option.some.inj g1
  exact g2

/-! half a circle on -/

def turnB (k : Nat) : Bool := (atW ((k + 128) % 256) == Fl.fneg (atW k)) || ((atW ((k + 128) % 256) == 0 || atW ((k + 128) % 256) == 2 ^ 63) && (Fl.fneg (atW k) == 0 || Fl.fneg (atW k) == 2 ^ 63))
theorem turns_ok : ∀ k : Fin 256, turnB k.val = true := by decide +kernel
theorem zr_zero : Fl.zr (2 ^ 63) = Fl.zr 0 := by
  have h1 : D.read 0 = .number false 0 D.leastPlace := by rfl
  have h2 : D.read (2 ^ 63) = .number true 0 D.leastPlace := by rfl
  unfold Fl.zr
  rw [h1, h2]
  rfl
theorem turn_zr {k : Nat} (h : k < 256) : Fl.zr (atW ((k + 128) % 256)) = Fl.zr (Fl.fneg (atW k)) := by
  have hs := turns_ok ⟨k, h⟩
  simp only at hs
  unfold turnB at hs
  simp only [Bool.or_eq_true, Bool.and_eq_true, beq_iff_eq] at hs
  rcases hs with hs | ⟨h1 | h1, h2 | h2⟩
  · rw [hs]
  · rw [h1, h2]
  · rw [h1, h2, zr_zero]
  · rw [h1, h2, zr_zero]
  · rw [h1, h2]

theorem product_opposite_left (a b : Datum) : a.opposite.product b = (a.product b).map Datum.opposite := by
  cases a with
  | nan s f => cases b <;> rfl
  | infinity s => cases b with
    | nan t f => rfl
    | infinity t => cases s <;> cases t <;> rfl
    | number t n q =>
      simp only [Datum.opposite, Datum.product]
      by_cases h : n = 0
      · simp [h]
      · cases s <;> cases t <;> simp [h, Datum.opposite]
  | number s m p => cases b with
    | nan t f => rfl
    | infinity t =>
      simp only [Datum.opposite, Datum.product]
      by_cases h : m = 0
      · simp [h]
      · cases s <;> cases t <;> simp [h, Datum.opposite]
    | number t n q => cases s <;> cases t <;> rfl

theorem zmul_neg_left (x y : Nat) : Fl.zr (Fl.fmul (Fl.fneg x) y) = Fl.z (Fl.zr (Fl.fmul x y)).opposite := by
  unfold Fl.fmul
  rw [Fl.zr_cno, Fl.zr_cno]
  unfold Format.mul
  rw [Fl.read_neg, product_opposite_left, ← Fl.zo_write_opposite (fun d h => Fl.product_not_nan h)]

theorem half_on (ph : Nat) (hp : ph < 4294967296) : FloatKind.f64.format.order (sineW ((ph + 2147483648) % 4294967296)) (VSine.fneg (sineW ph)) = some .eq := by
  obtain ⟨qh, hqh⟩ : ∃ qh, (ph + 2147483648) % 4294967296 = qh := ⟨_, rfl⟩
  have hq : qh < 4294967296 := by omega
  have e1 : qh / 16777216 % 256 = (ph / 16777216 % 256 + 128) % 256 := by omega
  have e2 : (qh / 16777216 + 1) % 256 = ((ph / 16777216 + 1) % 256 + 128) % 256 := by omega
  have e3 : qh % 16777216 = ph % 16777216 := by omega
  obtain ⟨d, f, p, s, h1, h2, h3, h4, h5⟩ := between (a := atW (ph / 16777216 % 256)) (b := atW ((ph / 16777216 + 1) % 256)) (m := ph % 16777216) (at_le (by omega)) (at_le (by omega)) (by omega)
  obtain ⟨d', f', p', s', g1, g2, g3, g4, g5⟩ := between (a := atW (qh / 16777216 % 256)) (b := atW ((qh / 16777216 + 1) % 256)) (m := qh % 16777216) (at_le (by omega)) (at_le (by omega)) (by omega)
  rw [hqh, sine_of h1 h2 h3 h4, sine_of g1 g2 g3 g4]
  have za := turn_zr (k := ph / 16777216 % 256) (by omega)
  have zb := turn_zr (k := (ph / 16777216 + 1) % 256) (by omega)
  rw [← e1] at za
  rw [← e2] at zb
  rw [e3, h2] at g2
  obtain rfl := Option.some.inj g2
  generalize atW (ph / 16777216 % 256) = a at *
  generalize atW ((ph / 16777216 + 1) % 256) = b at *
  generalize atW (qh / 16777216 % 256) = a' at *
  generalize atW ((qh / 16777216 + 1) % 256) = b' at *
  have z1 : Fl.zr d = Fl.zr (Fl.fsub b a) := by unfold Fl.fsub; rw [Fl.zr_cno, h1]; rfl
  have z2 : Fl.zr p = Fl.zr (Fl.fmul d f) := by unfold Fl.fmul; rw [Fl.zr_cno, h3]; rfl
  have z3 : Fl.zr s = Fl.zr (Fl.fadd a p) := by unfold Fl.fadd; rw [Fl.zr_cno, h4]; rfl
  have y1 : Fl.zr d' = Fl.zr (Fl.fsub b' a') := by unfold Fl.fsub; rw [Fl.zr_cno, g1]; rfl
  have y2 : Fl.zr p' = Fl.zr (Fl.fmul d' f) := by unfold Fl.fmul; rw [Fl.zr_cno, g3]; rfl
  have y3 : Fl.zr s' = Fl.zr (Fl.fadd a' p') := by unfold Fl.fadd; rw [Fl.zr_cno, g4]; rfl
  have x1 : Fl.zr d' = Fl.zr (Fl.fneg d) := by rw [y1, Fl.zsub_eq zb za, Fl.zsub_neg, ← z1, ← Fl.read_neg_z]
  have x2 : Fl.zr p' = Fl.zr (Fl.fneg p) := by rw [y2, Fl.zmul_eq x1 rfl, zmul_neg_left, ← z2, ← Fl.read_neg_z]
  have x3 : Fl.zr s' = Fl.zr (Fl.fneg s) := by rw [y3, Fl.zadd_eq za x2, Fl.zadd_neg, ← z3, ← Fl.read_neg_z]
  have t3 : ffour < top := by decide
  have hn : Fl.nan s' = false := by
    obtain ⟨m, e, r1, _⟩ := read_fin (x := s') (by omega)
    unfold Fl.nan
    rw [r1]
    rfl
  exact Fl.order_self_of x3 hn

end Go.Proofs.Ytadaegnkclleaaa.VBnd
