/- Step, the program's and the reference's: the same. -/
import Derived.Test.YtadaegnkclleaaaVStep
namespace Go.Proofs.Ytadaegnkclleaaa.VStepF
open Go Ieee Go.RowKit Go.Proofs.Ytadaegnkclleaaa.Rnd Go.Proofs.Ytadaegnkclleaaa.Flo Go.Proofs.Ytadaegnkclleaaa.Flc Go.Proofs.Ytadaegnkclleaaa.VTab Go.Proofs.Ytadaegnkclleaaa.VSin Go.Proofs.Ytadaegnkclleaaa.VStep
set_option linter.unusedVariables false

theorem read_inf {x : Nat} (h : rg x = top) : D.read x = .infinity (sg x) := by
  unfold Format.read
  simp only [sw_is, bin_is, top_is]
  unfold rg at h
  rw [h, if_neg (by decide), if_neg (by decide), if_pos rfl]
  rfl

theorem read_nan {x : Nat} (h : top < rg x) : ∃ s f, D.read x = .nan s f := by
  unfold Format.read
  simp only [sw_is, bin_is, top_is]
  unfold rg at h
  have : (2 : Nat) ^ 52 ≤ top := by decide
  rw [if_neg (by omega), if_neg (by omega), if_neg (by omega)]
  exact ⟨_, _, rfl⟩

theorem cmp_le {a b : Int} (h : a ≤ b) : compare a b = .lt ∨ compare a b = .eq := by
  show compareOfLessAndEq a b = _ ∨ compareOfLessAndEq a b = _
  unfold compareOfLessAndEq
  split
  · exact .inl rfl
  · rw [if_pos (by omega)]; exact .inr rfl

theorem cmp_gt {a b : Int} (h : b < a) : compare a b = .gt := by
  show compareOfLessAndEq a b = _
  unfold compareOfLessAndEq
  rw [if_neg (by omega), if_neg (by omega)]

theorem cmp_lt {a b : Int} (h : a < b) : compare a b = .lt := by
  show compareOfLessAndEq a b = _
  unfold compareOfLessAndEq
  rw [if_pos h]

theorem mul_ge {x y r : Nat} (hx : rg x < top) (hy : rg y < top) (hr : r ≤ top) (h : V r * 2 ^ bias ≤ V (rg x) * V (rg y)) : ∃ z, D.mul x y = some z ∧ r ≤ rg z ∧ rg z ≤ top ∧ sg z = (sg x ^^ sg y) := by
  obtain ⟨m, e, h1, h2⟩ := read_fin hx
  obtain ⟨n, d, h3, h4⟩ := read_fin hy
  obtain ⟨q, h5, h6, h7⟩ := write_ge (sg x ^^ sg y) (m * n) ((e : Int) - 1074 + ((d : Int) - 1074)) (k := bias) (u := e + d) (by rw [bias_is]; omega) hr (by
    rw [Nat.pow_add, show m * n * (2 ^ e * 2 ^ d) = m * 2 ^ e * (n * 2 ^ d) from by ac_rfl, h2, h4]; exact h)
  refine ⟨_, by unfold Format.mul; rw [h1, h3]; rfl, ?_, ?_, ?_⟩
  · rw [h5, rg_word _ h7]; exact h6
  · rw [h5, rg_word _ h7]; exact h7
  · rw [h5, sg_word _ h7]

theorem V_half {r : Nat} (h : 2 ^ 53 ≤ r) : V r = V (r - 2 ^ 52) * 2 := by
  unfold V
  rw [if_neg (by omega), if_neg (by omega)]
  have h1 : (r - 2 ^ 52) % 2 ^ 52 = r % 2 ^ 52 := by omega
  have h2 : r / 2 ^ 52 - 1 = ((r - 2 ^ 52) / 2 ^ 52 - 1) + 1 := by omega
  rw [h1, h2, Nat.pow_succ 2 ((r - 2 ^ 52) / 2 ^ 52 - 1), Nat.mul_assoc]

theorem ar1 (B : Nat) {a b : Nat} (h : a ≤ b) : 2 * B * a ≤ b * 2 * B := by
  have := Nat.mul_le_mul_right (2 * B) h
  rw [Nat.mul_comm (2 * B) a, Nat.mul_assoc b]
  exact this
theorem ar2 (B : Nat) {v R : Nat} (h : v * 2 ≤ R * B) : v * (4294967296 * B) ≤ R * 2147483648 * B * B := by
  have := Nat.mul_le_mul_right (2147483648 * B) h
  rw [show v * (4294967296 * B) = v * 2 * (2147483648 * B) from by rw [show (4294967296 : Nat) = 2 * 2147483648 from rfl, Nat.mul_assoc v, Nat.mul_assoc 2]]
  refine Nat.le_trans this (Nat.le_of_eq ?_)
  generalize (2147483648 : Nat) = c
  ac_rfl
theorem ar3 (B R : Nat) : R * 2147483648 * B ≤ 2 ^ 31 * (R * B) := by
  rw [show (2 : Nat) ^ 31 = 2147483648 from rfl]
  refine Nat.le_of_eq ?_
  generalize (2147483648 : Nat) = c
  ac_rfl
theorem ar4 (B : Nat) {a b : Nat} (h : a ≤ b) : a * 2 * B ≤ 2 * B * b := by
  have := Nat.mul_le_mul_right (2 * B) h
  rw [Nat.mul_comm (2 * B) b, Nat.mul_assoc a]
  exact this

theorem nr_ge {n : Nat} (h : 0 < n) : 2 ^ 53 ≤ nr n := by
  unfold nr
  rw [if_neg (by omega)]
  omega

def sv (x : Nat) : Int := signed (sg x) (V (rg x)) 0
theorem sv_le (x : Nat) : sv x ≤ V (rg x) := by unfold sv signed; cases sg x <;> simp <;> omega
theorem sv_pos {x : Nat} (h : sg x = false ∨ rg x = 0) : sv x = V (rg x) := by
  unfold sv signed
  rcases h with h | h
  · simp [h]
  · rw [h, V_zero]; simp

theorem order_sv {x y : Nat} (hx : rg x < top) (hy : rg y < top) : FloatKind.f64.format.order x y = some (compare (sv x) (sv y)) := order_fin hx hy

theorem V_c32 : V (rg 4751297606875873280) = 4294967296 * 2 ^ bias ∧ rg 4751297606875873280 < top := by decide +kernel
theorem V_2 : V (rg 4611686018427387904) = 2 * 2 ^ bias ∧ rg 4611686018427387904 < top ∧ sg 4611686018427387904 = false := by decide +kernel
theorem read_2 : D.read 4611686018427387904 = .number false (2 ^ 52) (((1 : Nat) : Int) - 52) := by decide +kernel

theorem gives_same (h : Nat) (r : Int) : ∃ (n : Nat) (e : Int), n < 4294967296 ∧ Gives 13 h r n e ∧ Gives 14 h r n e := by
  by_cases r1 : r < 1
  · exact ⟨0, 3, by decide, out_low h r r1⟩
  by_cases r2 : 1048576 < r
  · exact ⟨0, 3, by decide, out_high h r r1 r2⟩
  obtain ⟨R, rfl⟩ : ∃ R : Nat, r = R := ⟨r.toNat, by omega⟩
  have hR : R < 2 ^ 53 := by omega
  have hR0 : 0 < R := by omega
  obtain ⟨n1, n2⟩ := rg_int (R : Int) (by omega)
  rw [Int.natAbs_natCast] at n1
  obtain ⟨v1, v2⟩ := V_nr hR
  have hg := nr_ge hR0
  have hhalf := V_half hg
  obtain ⟨nm, hnm⟩ : ∃ nm, FloatKind.f64.nearest (R : Int) = nm := ⟨_, rfl⟩
  rw [hnm] at n1 n2
  have n3 : sg nm = false := by rw [n2]; simp
  have hx := div_pow (x := nm) (y := 4611686018427387904) (r := nr R - 2 ^ 52) (k := 1) (by omega) read_2 (by omega) (by rw [n1, hhalf])
  obtain ⟨x, hxx⟩ : ∃ x, D.word (sg nm) (nr R - 2 ^ 52) = x := ⟨_, rfl⟩
  have x1 : rg x = nr R - 2 ^ 52 := by rw [← hxx]; exact rg_word _ (by omega)
  have x2 : sg x = false := by rw [← hxx, sg_word _ (by omega)]; exact n3
  rw [hxx] at hx
  have z0 : rg 0 < top := by decide
  have z1 : sv 0 = 0 := by decide +kernel
  have snm : sv nm = V (rg nm) := sv_pos (.inl n3)
  have sx : sv x = V (rg x) := sv_pos (.inl x2)
  have c2 := V_2
  rcases Nat.lt_trichotomy (rg h) top with ht | ht | ht
  · have o0 := order_sv ht z0
    rw [z1] at o0
    by_cases hs : sg h = false ∨ rg h = 0
    · have sh := sv_pos hs
      have ho : FloatKind.f64.format.order h 0 = some .gt ∨ FloatKind.f64.format.order h 0 = some .eq := by
        rw [o0]
        by_cases h0 : sv h = 0
        · rw [h0]; exact .inr rfl
        · exact .inl (congrArg some (cmp_gt (by omega)))
      have ox := order_sv (x := h) (y := x) ht (by omega)
      by_cases hle : V (rg h) ≤ V (rg x)
      · obtain ⟨z, m1, m2, m3⟩ := mul_leE bias_is (x := 4611686018427387904) (y := h) (r := nr R) c2.2.1 ht (by omega) (by
          rw [c2.1, hhalf, ← x1]
          exact ar1 _ hle)
        have oz := order_sv (x := z) (y := nm) (by omega) (by omega)
        have hR31 : R * 2147483648 < 2 ^ 53 := by omega
        obtain ⟨w1, w2⟩ := V_nr hR31
        have c3 := V_c32
        obtain ⟨p, p1, p2, p3⟩ := mul_leE bias_is (x := h) (y := 4751297606875873280) (r := nr (R * 2147483648)) ht c3.2 w2 (by
          rw [c3.1, w1]
          have e1 : V (rg h) * 2 ≤ R * 2 ^ bias := by rw [← v1, hhalf, ← x1]; omega
          exact ar2 _ e1)
        have h31 : (2147483648 : Nat) < 2 ^ 53 := by decide
        obtain ⟨u1, u2⟩ := V_nr h31
        obtain ⟨q, q1, q2, q3⟩ := div_leE bias_is (x := p) (y := nm) (r := nr 2147483648) (t := 31) (by omega) (by omega) (by omega) u2 (by rw [u1]) (by
          have e1 := V_le.2 p2
          rw [w1] at e1
          rw [n1, v1]
          exact Nat.le_trans e1 (ar3 _ _))
        have hq : sg q = false ∨ rg q = 0 := by
          have e3 : sg (4751297606875873280) = false := by decide
          rcases hs with hs | hs
          · left
            rw [q3, p3, hs, n3, e3]; rfl
          · right
            obtain ⟨p', p1', p2', _⟩ := mul_leE bias_is (x := h) (y := 4751297606875873280) (r := 0) ht c3.2 (by decide) (by rw [hs, V_zero]; simp)
            rw [p1] at p1'
            obtain rfl := Option.some.inj p1'
            have hp0 : rg p = 0 := by omega
            obtain ⟨m, e, k1, k2⟩ := read_fin (x := p) (by omega)
            obtain ⟨n, d, k3, k4⟩ := read_fin (x := nm) (by omega)
            rw [hp0, V_zero] at k2
            have hm : m = 0 := by
              rcases Nat.eq_zero_or_pos m with h | h
              · exact h
              · have := Nat.mul_pos h (Nat.two_pow_pos e); omega
            have hn : n ≠ 0 := by
              rintro rfl
              rw [Nat.zero_mul, n1, v1] at k4
              have := Nat.mul_pos hR0 (Nat.two_pow_pos bias)
              omega
            subst hm
            have : D.div p nm = some (D.word (sg p ^^ sg nm) 0) := by
              unfold Format.div
              rw [k1, k3]
              unfold Datum.quotient
              simp [hn, Format.write, Format.nearest]
            rw [q1] at this
            rw [Option.some.inj this]
            exact rg_word _ (by omega)
        obtain ⟨k, k1, k2⟩ := toInt_le q2 h31 hq
        refine ⟨k, 0, by omega, within h R r1 r2 ho (nm := nm) (x := x) (z := z) (p := p) (q := q) hnm hx ?_ m1 ?_ p1 q1 k1 k2⟩
        · rw [ox]
          rcases cmp_le (a := sv h) (b := sv x) (by omega) with h | h <;> rw [h] <;> simp
        · rw [oz]
          have e1 := V_le.2 m2
          have e2 := sv_le z
          rcases cmp_le (a := sv z) (b := sv nm) (by rw [snm, n1]; omega) with h | h <;> rw [h] <;> simp
      · have hsf : sg h = false := by
          rcases hs with hs | hs
          · exact hs
          · rw [hs, V_zero] at hle; omega
        have hlt : rg x + 1 ≤ rg h := by
          rcases Nat.lt_or_ge (rg x) (rg h) with h1 | h1
          · exact h1
          · exact absurd (V_le.2 h1) hle
        have hh2 := V_half (r := nr R + 1) (by omega)
        rw [show nr R + 1 - 2 ^ 52 = rg x + 1 from by omega] at hh2
        obtain ⟨z, m1, m2, m3, m4⟩ := mul_ge (x := 4611686018427387904) (y := h) (r := nr R + 1) c2.2.1 ht (by omega) (by
          rw [c2.1, hh2]
          exact ar4 _ (V_le.2 hlt))
        have m5 : sg z = false := by rw [m4, c2.2.2, hsf]; rfl
        refine ⟨0, 3, by decide, above h R r1 r2 ho (nm := nm) (x := x) (z := z) hnm hx ?_ m1 ?_⟩
        · rw [ox, cmp_gt (by omega)]
        · rcases Nat.lt_or_ge (rg z) top with h1 | h1
          · rw [order_sv h1 (by omega), snm, sv_pos (.inl m5), n1]
            have := V_lt (show nr R < rg z from by omega)
            rw [cmp_gt (by omega)]
          · obtain ⟨m, e, k1, k2⟩ := read_fin (x := nm) (by omega)
            show Datum.order (D.read z) (D.read nm) = _
            rw [read_inf (x := z) (by omega), k1, m5]
            rfl
    · have h1 : sg h = true := by cases hh : sg h <;> simp_all
      have h2 : 0 < rg h := by omega
      have h3 := V_lt h2
      rw [V_zero] at h3
      have h4 : sv h < 0 := by
        unfold sv signed
        rw [h1]
        simp
        omega
      exact ⟨0, 3, by decide, below h R r1 r2 (.inr (by rw [o0, cmp_lt h4]))⟩
  · have hrd := read_inf ht
    obtain ⟨m, e, k1, k2⟩ := read_fin z0
    cases hs : sg h
    · rw [hs] at hrd
      obtain ⟨m3, e3, k5, k6⟩ := read_fin (x := nm) (by omega)
      obtain ⟨m4, e4, k7, k8⟩ := read_fin (x := x) (by omega)
      obtain ⟨z, hz⟩ : ∃ z, D.word false top = z := ⟨_, rfl⟩
      have z2 : rg z = top := by rw [← hz]; exact rg_word _ (Nat.le_refl _)
      have z3 : sg z = false := by rw [← hz]; exact sg_word _ (Nat.le_refl _)
      have hz2 := read_inf z2
      rw [z3] at hz2
      refine ⟨0, 3, by decide, above h R r1 r2 (.inl ?_) (nm := nm) (x := x) (z := z) hnm hx ?_ ?_ ?_⟩
      · show Datum.order (D.read h) (D.read 0) = _
        rw [hrd, k1]; rfl
      · show Datum.order (D.read h) (D.read x) = _
        rw [hrd, k7]; rfl
      · show D.mul _ h = _
        unfold Format.mul
        rw [read_2, hrd, ← hz]
        rfl
      · show Datum.order (D.read z) (D.read nm) = _
        rw [hz2, k5]; rfl
    · rw [hs] at hrd
      refine ⟨0, 3, by decide, below h R r1 r2 (.inr ?_)⟩
      show Datum.order (D.read h) (D.read 0) = _
      rw [hrd, k1]; rfl
  · obtain ⟨s, f, hrd⟩ := read_nan ht
    refine ⟨0, 3, by decide, below h R r1 r2 (.inl ?_)⟩
    show Datum.order (D.read h) (D.read 0) = _
    rw [hrd]
    rfl

end Go.Proofs.Ytadaegnkclleaaa.VStepF
